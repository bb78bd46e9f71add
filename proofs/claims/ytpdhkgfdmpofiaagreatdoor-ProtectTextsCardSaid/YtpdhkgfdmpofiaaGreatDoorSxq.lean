/-
  append.
-/
import Derived.Test.YtpdhkgfdmpofiaaGreatDoorSxg
set_option linter.unusedSimpArgs false
set_option linter.unusedVariables false
namespace Go.Proofs.YtpdhkgfdmpofiaaGreatDoor
namespace Sx
open Go.RowKit

section
variable {C : Ctx} {e : Env} {s : Sto} {w : World}

/-- A block that nobody speaks of any more may be written. -/
theorem Hp.trash (h : Hp C e s w) {id : Nat} {b0 : BI} (hk : s (.k id) = some (.bk b0)) (hr : b0.rw = true) {w' : World} (ho : w'.os = w.os) (ht : w'.tape = w.tape) (hu : w'.output = w.output) (hs : w'.heap.size = w.heap.size)
    (hh : ∀ k, k ≠ (e.pl id).1 → w'.heap[k]? = w.heap[k]?) : Hp C e ((Wr.new id .gone).upd s) w' := by
  have g := h.gone id
  have live : ∀ i b, (Wr.new id .gone).upd s (.k i) = some (.bk b) → b.live = true → w'.heap[(e.pl i).1]? = w.heap[(e.pl i).1]? := by
    intro i b hb hl
    rw [gone_k] at hb
    by_cases c : i = id
    · rw [if_pos c] at hb
      obtain rfl : BI.gone = b := by simpa using hb
      cases hl
    · rw [if_neg c] at hb
      exact hh _ (fun he => h.inj id i b0 b hk hb hr hl (Ne.symm c) he.symm)
  refine ⟨g.new, ?_, ?_, ?_, ?_, g.inj, ?_, g.mu, g.pin, ⟨ho.trans g.fr.os, ht.trans g.fr.tape, hu.trans g.fr.output, by rw [hs]; exact g.fr.size, fun k hk' hM => ?_, g.fr.gl⟩⟩
  · intro i off v hv
    obtain ⟨h1, ⟨t, ro, n, cp, h2, h3⟩, h4⟩ := g.cl i off v hv
    exact ⟨h1, ⟨t, ro, n, cp, h2, h3⟩, (World.cell?_of_block (w := w) (live i _ h2 rfl)).trans h4⟩
  · intro i t n cp hi off ho'
    rw [World.frozen?_of_block (w := w) (a := e.ad i off) (live i _ hi rfl), World.cell?_of_block (w := w) (a := e.ad i off) (live i _ hi rfl)]
    exact g.ar i t n cp hi off ho'
  · intro i t ro n f cp hi off ho'
    rw [World.frozen?_of_block (w := w) (a := e.ad i off) (live i _ hi rfl), World.cell?_of_block (w := w) (a := e.ad i off) (live i _ hi rfl)]
    exact g.oq i t ro n f cp hi off ho'
  · intro i b c es hi hcp
    have hl : b.live = true := by cases b <;> first | rfl | cases hcp
    obtain ⟨h1, h2, cs, h3, h4⟩ := g.cp i b c es hi hcp
    exact ⟨h1, h2, cs, (live i b hi hl).trans h3, h4⟩
  · intro i b hi hl; rw [hs]; exact g.lt i b hi hl
  · rw [← g.fr.block k hk' hM]
    exact hh k (fun he => hM (by rw [he]; exact h.mu id b0 hk hr))
/-- A block that is there, and that nobody speaks of, gets a name. -/
theorem Hp.adopt (h : Hp C e s w) {id : Nat} (hid : s (.k id) = none) {b : Blk} {xs : Array Value} {g : Nat} (hb : w.heap[g]? = some (.cells xs b.info.t (0, 0))) (hM : C.M g)
    (hfree : ∀ i b', s (.k i) = some (.bk b') → b'.live = true → (e.pl i).1 ≠ g) (hf : Fits e s xs b) : Hp C (e.setPl id (g, 0)) ((Wr.new id b).upd s) w ∧ Agree s e (e.setPl id (g, 0)) := by
  have hnk : ∀ i, kn s i → i ≠ id := fun i hi ec => by subst ec; unfold kn at hi; rw [hid] at hi; cases hi
  have hA : Agree s e (e.setPl id (g, 0)) := ⟨fun i hi => by simp only [Env.setPl]; rw [if_neg (hnk i hi)], fun _ _ => rfl⟩
  have hS : Sub s ((Wr.new id b).upd s) := Sub.new
  have had : ∀ o, (e.setPl id (g, 0)).ad id o = ⟨g, o, none⟩ := fun o => by simp [Env.ad, Env.setPl]
  have hpl : (e.setPl id (g, 0)).pl id = (g, 0) := by simp [Env.setPl]
  have kns : ∀ i b', s (.k i) = some (.bk b') → kn s i := fun i b' hi => by unfold kn; rw [hi]; rfl
  have hcell : ∀ o, w.cell? ⟨g, o, none⟩ = xs[o]? := fun o => by simp [World.cell?, hb]
  have hfr : ∀ o, w.frozen? ⟨g, o, none⟩ = false := fun o => by simp [World.frozen?, hb]
  have old : ∀ i o (hi : kn s i), (e.setPl id (g, 0)).ad i o = e.ad i o := fun i o hi => hA.ad hi
  have rwl : ∀ b : BI, b.rw = true → b.live = true := fun b hb => by cases b <;> first | rfl | cases hb
  refine ⟨⟨h.new, ?_, ?_, ?_, ?_, ?_, ?_, ?_, h.pin.mono hA hS, h.fr⟩, hA⟩
  · intro i off v hv
    rw [new_c] at hv
    by_cases c : i = id
    · subst c
      rw [if_pos rfl] at hv
      cases b with
      | ar t ro cs cp =>
        obtain ⟨f1, f2, f3⟩ := hf
        simp only [Blk.cell, Option.map_eq_some_iff, LV.cv.injEq] at hv
        obtain ⟨x, hx, rfl⟩ := hv
        have hx1 := f1 x (List.mem_of_getElem? hx)
        refine ⟨hx1.sub hS, ⟨t, ro, cs.length, cp, by rw [new_k, if_pos rfl]; rfl, (List.getElem?_eq_some_iff.1 hx).1⟩, ?_⟩
        rw [had, hcell, f2 off x hx, Cv.den_agree hA hx1]
      | oq t ro n f cp => cases hv
      | gone => cases hv
    · rw [if_neg c] at hv
      obtain ⟨h1, ⟨t, ro, n, cp, h2, h3⟩, h4⟩ := h.cl i off v hv
      refine ⟨h1.sub hS, ⟨t, ro, n, cp, by rw [new_k, if_neg c]; exact h2, h3⟩, ?_⟩
      rw [old i off (kns i _ h2), h4, Cv.den_agree hA h1]
  · intro i t n cp hi off ho
    rw [new_k] at hi
    by_cases c : i = id
    · subst c
      rw [if_pos rfl] at hi
      cases b with
      | ar t' ro cs cp' =>
        obtain ⟨f1, f2, f3⟩ := hf
        simp only [Blk.info, Option.some.injEq, LV.bk.injEq, BI.ar.injEq] at hi
        obtain ⟨rfl, rfl, rfl, rfl⟩ := hi
        refine ⟨by rw [had]; exact hfr _, ?_⟩
        rw [had, hcell, f2 off _ (List.getElem?_eq_getElem ho)]
        rfl
      | oq t' ro n' f cp' => simp [Blk.info] at hi
      | gone => simp [Blk.info] at hi
    · rw [if_neg c] at hi
      rw [old i off (kns i _ hi)]
      exact h.ar i t n cp hi off ho
  · intro i t ro n f cp hi off ho
    rw [new_k] at hi
    by_cases c : i = id
    · subst c
      rw [if_pos rfl] at hi
      cases b with
      | oq t' ro' n' f' cp' =>
        simp only [Blk.info, Option.some.injEq, LV.bk.injEq, BI.oq.injEq] at hi
        obtain ⟨rfl, rfl, rfl, rfl, rfl⟩ := hi
        refine ⟨?_, fun _ => by rw [had]; exact hfr _⟩
        rw [had, hcell, hf.1 off ho]
      | ar t' ro' cs cp' => simp [Blk.info] at hi
      | gone => simp [Blk.info] at hi
    · rw [if_neg c] at hi
      rw [old i off (kns i _ hi)]
      exact h.oq i t ro n f cp hi off ho
  · intro i b' c es hi hcp
    rw [new_k] at hi
    by_cases ci : i = id
    · subst ci
      rw [if_pos rfl] at hi
      obtain rfl : b.info = b' := by simpa using hi
      refine ⟨?_, by rw [hpl], xs, by rw [hpl]; exact hb, ?_⟩
      · cases b with
        | ar t' ro' cs cp' => exact hS.2 c (hf.2.2 c es hcp).1
        | oq t' ro' n' f' cp' => exact hS.2 c (hf.2 c es hcp).1
        | gone => cases hcp
      · cases b with
        | ar t' ro' cs cp' => exact (hf.2.2 c es hcp).2
        | oq t' ro' n' f' cp' => exact (hf.2 c es hcp).2
        | gone => cases hcp
    · rw [if_neg ci] at hi
      obtain ⟨h1, h2⟩ := h.cp i b' c es hi hcp
      rw [hA.1 i (kns i _ hi)]
      exact ⟨hS.2 c h1, h2⟩
  · intro i i' b1 b2 h1 h2 h3 h4 hne
    rw [new_k] at h1 h2
    by_cases c : i = id
    · subst c
      rw [if_neg (Ne.symm hne)] at h2
      rw [hpl, hA.1 i' (kns i' _ h2)]
      exact (hfree i' b2 h2 h4).symm
    · rw [if_neg c] at h1
      rw [hA.1 i (kns i _ h1)]
      by_cases c' : i' = id
      · subst c'
        rw [hpl]
        exact hfree i b1 h1 (rwl b1 h3)
      · rw [if_neg c'] at h2
        rw [hA.1 i' (kns i' _ h2)]
        exact h.inj i i' b1 b2 h1 h2 h3 h4 hne
  · intro i b' hi hl
    rw [new_k] at hi
    by_cases c : i = id
    · subst c; rw [hpl]; exact (Array.getElem?_eq_some_iff.1 hb).1
    · rw [if_neg c] at hi
      rw [hA.1 i (kns i _ hi)]
      exact h.lt i b' hi hl
  · intro i b' hi hr
    rw [new_k] at hi
    by_cases c : i = id
    · subst c; rw [hpl]; exact hM
    · rw [if_neg c] at hi
      rw [hA.1 i (kns i _ hi)]
      exact h.mu i b' hi hr
end

section
variable {P : Program} {σ : St} {o : Oper} {tb : Tb}

/-- A slice whose length is written out: its block, its cells. -/
def slCells (σ : St) (size : Nat) : Sv → Option (Nat × Nat × Nat × List Cv)
  | .one (.slc id (.lit off) (.lit n) _) => match alook σ.bk id with
    | some (.ar _ _ cs _) => match Nat.ble (off + n * size) cs.length with
      | true => some (id, off, n, (cs.drop off).take (n * size))
      | false => none
    | _ => none
  | _ => none
def emptyB : Sv → Bool
  | .one (.val (.slice none 0 _)) => true
  | .one (.slc _ _ (.lit 0) _) => true
  | _ => false
def newRowE (σ : St) (el size need : Nat) (cs : List Cv) (rl : List Loc) (pre : List Wr) : OpE :=
  ⟨some (.one (.slc σ.nx (.lit 0) (.lit need) (.nam σ.nn))), .k σ.nx :: .n σ.nn :: rl, pre ++ [.nm σ.nn, .new σ.nx (.ar el false cs (some (σ.nn, size)))]⟩
def freshB (σ : St) : Bool := (alook σ.bk σ.nx).isNone && !memb σ.nl σ.nn
/-- The slice that is appended to: none of it is kept if it may be written. -/
def appendS (tb : Tb) (σ : St) (t t' : TypeId) (vs vx : Sv) : Tree OpE := match Nat.beq t t', tb.und t with
  | true, some (.slice el) => match tb.info el with
    | some ti => match ti.zero with
      | some z => match Nat.beq z.cells.size ti.size && (Nat.blt 0 ti.size && freshB σ) with
        | true => match slCells σ ti.size vx with
          | some (id2, off2, m, news) => match Nat.blt 0 m && news.all Cv.plainB with
            | true => match vs with
              | .one (.val (.slice none 0 0)) => match Nat.ble (m * ti.bytes) 140737488355328 && Nat.ble m 140737488355328 with
                | true => .leaf (newRowE σ el ti.size m news (.k id2 :: cellLocs id2 off2 (m * ti.size)) [])
                | false => .fail
              | .one (.slc id (.lit off) (.lit n) cap) => match slCells σ ti.size vs with
                | some (_, _, _, olds) => match Nat.ble ((n + m) * ti.bytes) 140737488355328 && Nat.ble (n + m) 140737488355328 with
                  | true => match cap with
                    | .lit c => match Nat.blt c (n + m) with
                      | true => .leaf (newRowE σ el ti.size (n + m) (olds ++ news) (.k id :: cellLocs id off (n * ti.size) ++ (.k id2 :: cellLocs id2 off2 (m * ti.size))) [])
                      | false => .fail
                    | .nam c => match alook σ.bk id, off with
                      | some (.ar el' false _ (some (c', es))), 0 => match Nat.beq el' el && (Nat.beq c c' && Nat.beq es ti.size) with
                        | true => .leaf (newRowE σ el ti.size (n + m) (olds ++ news) (.k id :: cellLocs id off (n * ti.size) ++ (.k id2 :: cellLocs id2 off2 (m * ti.size))) [.new id .gone])
                        | false => .fail
                      | _, _ => .fail
                    | _ => .fail
                  | false => .fail
                | none => .fail
              | _ => .fail
            | false => .fail
          | none => .fail
        | false => .fail
      | none => .fail
    | none => .fail
  | _, _ => .fail
theorem slCells_at {size : Nat} {v : Sv} {id off n : Nat} {cs : List Cv} (h : slCells σ size v = some (id, off, n, cs)) : (∃ cap, v = .one (.slc id (.lit off) (.lit n) cap)) ∧ cs.length = n * size ∧ ∃ t ro l cp, alook σ.bk id = some (.ar t ro l cp) ∧ off + n * size ≤ l.length ∧ cs = (l.drop off).take (n * size) := by
  unfold slCells at h
  split at h
  · rename_i id' off' n' cap
    split at h
    · rename_i t ro l cp hb
      split at h
      · rename_i hle
        rw [Nat.ble_eq] at hle
        simp only [Option.some.injEq, Prod.mk.injEq] at h
        obtain ⟨rfl, rfl, rfl, rfl⟩ := h
        exact ⟨⟨cap, rfl⟩, by simp; omega, t, ro, l, cp, hb, hle, rfl⟩
      · cases h
    · cases h
  · cases h
theorem slCells_read {size : Nat} {v : Sv} {id off n : Nat} {cs : List Cv} (h : slCells σ size v = some (id, off, n, cs)) {C : Ctx} {e : Env} {s : Sto} {w : World} (hp : Hp C e s w) (hl : ∀ l ∈ cellLocs id off (n * size), s l = look σ l) :
    scs s cs ∧ ∀ (j : Nat) (x : Value), (cs.map (·.den e))[j]? = some x → w.cell? ((e.ad id off).add j) = some x := by
  obtain ⟨_, hlen, t, ro, l, cp, hb, hle, rfl⟩ := slCells_at h
  have key : ∀ j c, ((l.drop off).take (n * size))[j]? = some c → w.cell? (e.ad id (off + j)) = some (c.den e) ∧ c.sc s := by
    intro j c hc
    have hj : j < n * size := by have := (List.getElem?_eq_some_iff.1 hc).1; simp at this; omega
    have hlc : l[off + j]? = some c := by rw [List.getElem?_take_of_lt hj, List.getElem?_drop] at hc; exact hc
    have h1 : s (.c id (off + j)) = some (.cv c) := by
      rw [hl _ (mem_cellLocs (by omega) (by omega))]
      simp only [look, hb, Option.bind_some, Blk.cell, hlc, Option.map_some]
    obtain ⟨h2, _, h3⟩ := hp.cl id (off + j) c h1
    exact ⟨h3, h2⟩
  refine ⟨fun c hc => ?_, fun j x hx => ?_⟩
  · obtain ⟨j, hj⟩ := List.mem_iff_getElem?.1 hc
    exact (key j c hj).2
  · rw [List.getElem?_map] at hx
    obtain ⟨c, hc, rfl⟩ := Option.map_eq_some_iff.1 hx
    rw [ad_add]
    exact (key j c hc).1
theorem size_ge {w : World} {need old : Nat} {e : TypeId} : need ≤ grownCap w need old e := grownCap_ge w need old e
theorem row_facts {e : Env} {cs : List Cv} {z : Array Value} {need cap size : Nat} (hlen : cs.length = need * size) (hz : z.size = size) (hcap : need ≤ cap) :
    (∀ (j : Nat) (c : Cv), cs[j]? = some c → ((cs.map (·.den e)).toArray ++ Builtin.zeroCells z (cap - need))[j]? = some (c.den e)) ∧ ((cs.map (·.den e)).toArray ++ Builtin.zeroCells z (cap - need)).size = cap * size ∧ cs.length ≤ ((cs.map (·.den e)).toArray ++ Builtin.zeroCells z (cap - need)).size := by
  refine ⟨fun j c hc => ?_, ?_, ?_⟩
  · have hlt := (List.getElem?_eq_some_iff.1 hc).1
    rw [Array.getElem?_append_left (by simpa using hlt)]
    simp [hc]
  · rw [Array.size_append, size_zeroCells, hz]
    simp only [List.size_toArray, List.length_map]
    rw [hlen, ← Nat.add_mul, show need + (cap - need) = cap by omega]
  · rw [Array.size_append]
    simp
/-- A new row, behind whatever has been forgotten. -/
theorem newRow_ok {el size need : Nat} {cs : List Cv} {rl : List Loc} {pre : List Wr} (hfr : freshB σ = true)
    (h : ∀ (C : Ctx) (e : Env) (s : Sto) (a : Act) (w : World), Hp C e s w → (∀ x ∈ o.op.operands, Sees σ s e a x) → (∀ l ∈ rl, s l = look σ l) → s (.k σ.nx) = none → s (.n σ.nn) = none →
      ∃ g cap w' xs, (execOp a.eval o).run P w = .ok (.value (.slice (some ⟨g, 0, none⟩) need cap)) w' ∧ scs s cs ∧
        (∃ s1, s1 = upds s pre ∧ Sub s s1 ∧ s1 (.k σ.nx) = none ∧ s1 (.n σ.nn) = none ∧ ((g = w.heap.size ∧ ∃ w1, w' = w1.alloc (.cells xs el) ∧ w1.heap.size = w.heap.size ∧ Hp C e s1 w1) ∨
          (Hp C e s1 w' ∧ w'.heap[g]? = some (.cells xs el (0, 0)) ∧ C.M g ∧ ∀ i b', s1 (.k i) = some (.bk b') → b'.live = true → (e.pl i).1 ≠ g))) ∧
        (∀ (j : Nat) (c : Cv), cs[j]? = some c → xs[j]? = some (c.den e)) ∧ xs.size = cap * size ∧ cs.length ≤ xs.size) : OpOk P σ o (newRowE σ el size need cs rl pre) := by
  intro C e s a w hp hx hl
  simp only [newRowE] at hl ⊢
  unfold freshB at hfr
  rw [Bool.and_eq_true] at hfr
  have hk : s (.k σ.nx) = none := by
    rw [hl _ (by simp)]
    simp only [look]
    rw [show alook σ.bk σ.nx = none by simpa using hfr.1]; rfl
  have hn : s (.n σ.nn) = none := by
    rw [hl _ (by simp)]
    simp only [look]
    rw [if_neg (by simpa using hfr.2)]
  obtain ⟨g, cap, w', xs, h1, hsc, ⟨s1, hs1, hS, hk1, hn1, h2⟩, h3, h4, h5⟩ := h C e s a w hp hx (fun l hm => hl l (by simp [hm])) hk hn
  have hfin : ∀ (e2 : Env), upds s (pre ++ [.nm σ.nn, .new σ.nx (.ar el false cs (some (σ.nn, size)))]) = (Wr.new σ.nx (.ar el false cs (some (σ.nn, size)))).upd ((Wr.nm σ.nn).upd s1) := by
    intro _
    unfold upds
    rw [List.foldl_append, hs1]
    rfl
  have knn1 : knn ((Wr.nm σ.nn).upd s1) σ.nn := by unfold knn; simp [Wr.upd, Wr.fn]
  have hk2 : (Wr.nm σ.nn).upd s1 (.k σ.nx) = none := hk1
  have fits : ∀ (e1 : Env), Agree s1 e e1 → e1.nm σ.nn = cap → Fits e1 ((Wr.nm σ.nn).upd s1) xs (.ar el false cs (some (σ.nn, size))) := by
    intro e1 hA he
    refine ⟨(scs.sub hS hsc).sub Sub.nm, fun j c hc => ?_, fun c' es hce => ?_⟩
    · rw [h3 j c hc, Cv.den_agree hA ((hsc c (List.mem_of_getElem? hc)).sub hS)]
    · obtain ⟨rfl, rfl⟩ := Prod.mk.inj (Option.some.inj hce)
      exact ⟨knn1, by rw [he]; exact h4, h5⟩
  have fin : ∀ (e1 : Env), Agree s1 e e1 → e1.nm σ.nn = cap → Hp C (e1.setPl σ.nx (g, 0)) ((Wr.new σ.nx (.ar el false cs (some (σ.nn, size)))).upd ((Wr.nm σ.nn).upd s1)) w' → Agree ((Wr.nm σ.nn).upd s1) e1 (e1.setPl σ.nx (g, 0)) →
      ∃ nx e' w'', (execOp a.eval o).run P w = .ok nx w'' ∧ Agree s e e' ∧ Hp C e' (upds s (pre ++ [.nm σ.nn, .new σ.nx (.ar el false cs (some (σ.nn, size)))])) w'' ∧
        ValIs e' (upds s (pre ++ [.nm σ.nn, .new σ.nx (.ar el false cs (some (σ.nn, size)))])) (some (.one (.slc σ.nx (.lit 0) (.lit need) (.nam σ.nn)))) nx := by
    intro e1 hA he hhp hA2
    have hA3 : Agree s e (e1.setPl σ.nx (g, 0)) := by
      refine ⟨fun i hi => ?_, fun c hc => ?_⟩
      · rw [hA2.1 i (Sub.nm.1 i (hS.1 i hi)), hA.1 i (hS.1 i hi)]
      · rw [hA2.2 c (Sub.nm.2 c (hS.2 c hc)), hA.2 c (hS.2 c hc)]
    refine ⟨_, e1.setPl σ.nx (g, 0), w', h1, hA3, by rw [hfin e]; exact hhp, ?_, ?_⟩
    · simp only [Sv.den, Cv.den, Sn.den]
      rw [show (e1.setPl σ.nx (g, 0)).ad σ.nx 0 = ⟨g, 0, none⟩ from setPl_ad e1 σ.nx g 0]
      rw [show (e1.setPl σ.nx (g, 0)).nm σ.nn = cap from he]
    · rw [hfin e]
      refine ⟨?_, trivial, trivial, ?_⟩
      · unfold kn; rw [new_k, if_pos rfl]; rfl
      · exact knn1
  rcases h2 with ⟨rfl, w1, rfl, hsz, hp1⟩ | ⟨hp1, hg, hM, hfree⟩
  · obtain ⟨q1, q2⟩ := hp1.name hn1 cap
    have he : (e.setNm σ.nn cap).nm σ.nn = cap := by simp [Env.setNm]
    obtain ⟨r1, r2⟩ := q1.alloc hk2 (fits _ q2 he)
    rw [hsz] at r1 r2
    exact fin _ q2 he r1 r2
  · obtain ⟨q1, q2⟩ := hp1.name hn1 cap
    have he : (e.setNm σ.nn cap).nm σ.nn = cap := by simp [Env.setNm]
    obtain ⟨r1, r2⟩ := q1.adopt hk2 hg hM (fun i b' hi hb => by
      have hi' : s1 (.k i) = some (.bk b') := hi
      have := hfree i b' hi' hb
      rwa [show (e.setNm σ.nn cap).pl i = e.pl i from rfl]) (fits _ q2 he)
    exact fin _ q2 he r1 r2
theorem appendS_ok (hT : TbOk P tb) {x y : Operand} {t t' : TypeId} {vs vx : Sv} (ho : o.op = .call { callee := .builtin .append, args := #[x, y], argTypes := #[t, t'] }) (hx : evO σ x = some vs) (hy : evO σ y = some vx) : TreeOk P σ o (appendS tb σ t t' vs vx) := by
  unfold appendS
  split
  · rename_i el htt hu
    obtain rfl := beq_iff'.1 htt
    split
    · rename_i ti hti
      split
      · rename_i z hz
        split
        · rename_i hb
          simp only [Bool.and_eq_true, beq_iff', blt_iff] at hb
          obtain ⟨hzs, hsz, hfr⟩ := hb
          split
          · rename_i id2 off2 m news hnews
            split
            · rename_i hb2
              simp only [Bool.and_eq_true, blt_iff] at hb2
              obtain ⟨hm, hpl⟩ := hb2
              obtain ⟨⟨cap2, rfl⟩, hlen2, _⟩ := slCells_at hnews
              have hone : ∀ e, ∀ u ∈ news.map (·.den e), Value.oneCell' u = true := fun e u hu' => by
                obtain ⟨c, hc, rfl⟩ := List.mem_map.1 hu'
                exact (Cv.plain_cell (List.all_eq_true.1 hpl c hc) e).1
              have ops : ∀ (s : Sto) (e : Env) (a : Act) (w : World), (∀ x ∈ o.op.operands, Sees σ s e a x) → (execOp a.eval o).run P w = ((do pure (.value (← Builtin.append_ #[t, t] o.type #[vs.den e, .slice (some (e.ad id2 off2)) m (cap2.den e)])) : Sem Next)).run P w := by
                intro s e a w hh
                obtain ⟨x1, _⟩ := hh x (by rw [ho]; simp [Op.operands, Call.operands]) _ hx
                obtain ⟨y1, _⟩ := hh y (by rw [ho]; simp [Op.operands, Call.operands]) _ hy
                rw [run_builtin ho]
                simp only [List.map_toArray, List.map_cons, List.map_nil, x1, y1]
                rfl
              split
              · -- the slice is nil
                split
                · rename_i hby
                  rw [Bool.and_eq_true, Nat.ble_eq, Nat.ble_eq] at hby
                  refine TreeOk.leaf (newRow_ok hfr fun C e s a w hp hh hl hk hn => ?_)
                  obtain ⟨r1, r2⟩ := slCells_read hnews hp (fun l hm => hl l (List.mem_cons_of_mem _ hm))
                  have hrun := run_append_nil (P := P) w t o.type el ti z (hT.und hu) (hT.info hti) hz (e.ad id2 off2) m (cap2.den e) (news.map (·.den e)) (by simpa using hlen2) r2 hm (by omega) (by omega)
                  obtain ⟨f1, f2, f3⟩ := row_facts (e := e) hlen2 hzs (size_ge (w := w) (need := m) (old := 0) (e := el))
                  exact ⟨w.heap.size, grownCap w m 0 el, _, _, (ops s e a w hh).trans (runV hrun), r1, ⟨s, rfl, Sub.refl _, hk, hn, Or.inl ⟨rfl, w.drew, rfl, rfl, hp.drew⟩⟩, f1, f2, f3⟩
                · exact TreeOk.fail
              · rename_i id off n cap
                split
                · rename_i id' off' n' olds holds
                  obtain ⟨⟨cap', hce⟩, hleno, t0, ro0, l0, cp0, hbk, hle0, hold0⟩ := slCells_at holds
                  simp only [Sv.one.injEq, Cv.slc.injEq, Sn.lit.injEq] at hce
                  obtain ⟨rfl, rfl, rfl, rfl⟩ := hce
                  split
                  · rename_i hby
                    rw [Bool.and_eq_true, Nat.ble_eq, Nat.ble_eq] at hby
                    have hlen : (olds ++ news).length = (n + m) * ti.size := by rw [List.length_append, hleno, hlen2, Nat.add_mul]
                    -- there is no room
                    have grow : ∀ (e : Env) (s : Sto) (a : Act) (w : World) (c : Nat), (∀ x ∈ o.op.operands, Sees σ s e a x) → cap.den e = c → c < n + m → (∀ (j : Nat) (x : Value), (olds.map (·.den e))[j]? = some x → w.cell? ((e.ad id off).add j) = some x) → (∀ (j : Nat) (x : Value), (news.map (·.den e))[j]? = some x → w.cell? ((e.ad id2 off2).add j) = some x) →
                        (execOp a.eval o).run P w = .ok (.value (.slice (some ⟨w.heap.size, 0, none⟩) (n + m) (grownCap w (n + m) c el))) (w.drew.alloc (.cells (((olds ++ news).map (·.den e)).toArray ++ Builtin.zeroCells z.cells (grownCap w (n + m) c el - (n + m))) el)) := by
                      intro e s a w c hh hcd hlt r2 q2
                      rw [ops s e a w hh]
                      refine runV ?_
                      have hrun := run_append_grow (P := P) w t o.type el ti z (hT.und hu) (hT.info hti) hz (e.ad id off) n c (olds.map (·.den e)) (by simpa using hleno) r2 (e.ad id2 off2) m (cap2.den e) (news.map (·.den e)) (by simpa using hlen2) q2 hlt (by omega) (growslice_fits hlt hby.1)
                      show (Builtin.append_ #[t, t] o.type #[.slice (some (e.ad id off)) n (cap.den e), .slice (some (e.ad id2 off2)) m (cap2.den e)]).run P w = _
                      rw [hcd]
                      refine hrun.trans ?_
                      have hap : ((olds ++ news).map (·.den e)).toArray = (olds.map (·.den e)).toArray ++ (news.map (·.den e)).toArray := by simp
                      rw [hap]
                    split
                    · rename_i c
                      split
                      · rename_i hlt
                        have hlt' := blt_iff.1 hlt
                        refine TreeOk.leaf (newRow_ok hfr fun C e s a w hp hh hl hk hn => ?_)
                        obtain ⟨r1, r2⟩ := slCells_read holds hp (fun l hm => hl l (List.mem_append_left _ (List.mem_cons_of_mem _ hm)))
                        obtain ⟨q1, q2⟩ := slCells_read hnews hp (fun l hm => hl l (List.mem_append_right _ (List.mem_cons_of_mem _ hm)))
                        obtain ⟨f1, f2, f3⟩ := row_facts (e := e) hlen hzs (size_ge (w := w) (need := n + m) (old := c) (e := el))
                        refine ⟨w.heap.size, grownCap w (n + m) c el, _, _, grow e s a w c hh rfl hlt' r2 q2, ?_, ⟨s, rfl, Sub.refl _, hk, hn, Or.inl ⟨rfl, w.drew, rfl, rfl, hp.drew⟩⟩, f1, f2, f3⟩
                        intro x hxm
                        rcases List.mem_append.1 hxm with h | h
                        · exact r1 x h
                        · exact q1 x h
                      · exact TreeOk.fail
                    · rename_i c
                      split
                      · rename_i el' l1 c' es hb1
                        split
                        · rename_i hcc
                          simp only [Bool.and_eq_true, beq_iff'] at hcc
                          obtain ⟨rfl, rfl, rfl⟩ := hcc
                          refine TreeOk.leaf (newRow_ok hfr fun C e s a w hp hh hl hk hn => ?_)
                          have hkid : s (.k id) = some (.bk (.ar el' false l1.length (some (c, ti.size)))) := by
                            rw [hl _ (by simp)]
                            simp only [look, hb1]; rfl
                          have hne : σ.nx ≠ id := fun h => by rw [h, hkid] at hk; cases hk
                          obtain ⟨r1, r2⟩ := slCells_read holds hp (fun l hm => hl l (List.mem_append_left _ (List.mem_cons_of_mem _ hm)))
                          obtain ⟨q1, q2⟩ := slCells_read hnews hp (fun l hm => hl l (List.mem_append_right _ (List.mem_cons_of_mem _ hm)))
                          have hsc : scs s (olds ++ news) := fun x hxm => by
                            rcases List.mem_append.1 hxm with h | h
                            · exact r1 x h
                            · exact q1 x h
                          have hs1k : (Wr.new id .gone).upd s (.k σ.nx) = none := by rw [gone_k, if_neg hne]; exact hk
                          obtain ⟨_, hp2, cur, hcur, hcsz, _⟩ := hp.cp id _ c ti.size hkid rfl
                          simp only [BI.t] at hcur
                          have had0 : e.ad id 0 = ⟨(e.pl id).1, 0, none⟩ := by unfold Env.ad; rw [hp2]
                          by_cases hroom : n + m ≤ e.nm c
                          · -- there is room
                            have hsize : n * ti.size + (news.map (·.den e)).length ≤ cur.size := by
                              rw [List.length_map, hlen2, hcsz, ← Nat.add_mul]; exact Nat.mul_le_mul_right _ hroom
                            have hrun := run_append_room (P := P) w t o.type el' ti (hT.und hu) (hT.info hti) (e.pl id).1 n (e.nm c) cur hcur (e.ad id2 off2) m (cap2.den e) (news.map (·.den e)) (by simpa using hlen2) q2 (hone e) hroom hsize
                            have htake : cur.toList.take (n * ti.size) = olds.map (·.den e) := by
                              apply List.ext_getElem?
                              intro j
                              by_cases hj : j < n * ti.size
                              · have hlo : j < olds.length := by omega
                                have h1 := r2 j _ (by rw [List.getElem?_map, List.getElem?_eq_getElem hlo]; rfl)
                                rw [had0, Addr.add_lit, Nat.zero_add] at h1
                                simp only [World.cell?, hcur] at h1
                                rw [List.getElem?_take_of_lt hj, List.getElem?_map, List.getElem?_eq_getElem hlo]
                                simpa using h1
                              · rw [List.getElem?_eq_none (by simp; omega), List.getElem?_eq_none (by simp; omega)]
                            obtain ⟨XS, hXS⟩ : ∃ XS : Array Value, XS = (cur.toList.take (n * ti.size) ++ news.map (·.den e) ++ cur.toList.drop (n * ti.size + (news.map (·.den e)).length)).toArray := ⟨_, rfl⟩
                            rw [← hXS] at hrun
                            refine ⟨(e.pl id).1, e.nm c, w.setRow (e.pl id).1 XS, XS, (ops s e a w hh).trans (runV (by show (Builtin.append_ #[t, t] o.type #[.slice (some (e.ad id 0)) n (e.nm c), .slice (some (e.ad id2 off2)) m (cap2.den e)]).run P w = _; rw [had0]; exact hrun)), hsc, ⟨_, rfl, Sub.new, hs1k, hn, Or.inr ⟨hp.trash hkid rfl rfl rfl rfl (setRow_size _ _ _) (fun k hk' => setRow_other w _ _ _ hk'), setRow_heap w _ _ _ _ _ hcur, hp.mu id _ hkid rfl, ?_⟩⟩, ?_, ?_, ?_⟩
                            · intro i b' hi hlv
                              have hi : (Wr.new id .gone).upd s (.k i) = some (.bk b') := hi
                              rw [gone_k] at hi
                              by_cases hii : i = id
                              · rw [if_pos hii] at hi
                                obtain rfl : BI.gone = b' := by simpa using hi
                                cases hlv
                              · rw [if_neg hii] at hi
                                exact (hp.inj id i _ b' hkid hi rfl hlv (Ne.symm hii)).symm
                            · intro j x hxj
                              rw [hXS, htake]
                              have hlt := (List.getElem?_eq_some_iff.1 hxj).1
                              simp only [List.getElem?_toArray, ← List.map_append]
                              rw [List.getElem?_append_left (by simpa using hlt), List.getElem?_map, hxj]
                              rfl
                            · rw [hXS]
                              simp only [List.size_toArray, List.length_append, List.length_take, List.length_drop, Array.length_toList]
                              omega
                            · rw [hXS]
                              simp only [List.size_toArray, List.length_append, List.length_take, List.length_drop, Array.length_toList, List.length_map] at hsize ⊢
                              omega
                          · obtain ⟨f1, f2, f3⟩ := row_facts (e := e) hlen hzs (size_ge (w := w) (need := n + m) (old := e.nm c) (e := el'))
                            exact ⟨w.heap.size, grownCap w (n + m) (e.nm c) el', _, _, grow e s a w (e.nm c) hh rfl (by omega) r2 q2, hsc, ⟨_, rfl, Sub.new, hs1k, hn, Or.inl ⟨rfl, w.drew, rfl, rfl, (hp.gone id).drew⟩⟩, f1, f2, f3⟩
                        · exact TreeOk.fail
                      · exact TreeOk.fail
                    · exact TreeOk.fail
                  · exact TreeOk.fail
                · exact TreeOk.fail
              · exact TreeOk.fail
            · exact TreeOk.fail
          · exact TreeOk.fail
        · exact TreeOk.fail
      · exact TreeOk.fail
    · exact TreeOk.fail
  · exact TreeOk.fail

/-! Nothing is appended: the slice stays what it is. -/
theorem firstCells_none {x : Value} (h : (∃ a n c, x = .slice a n c) ∨ ∃ b, x = .string b) (size : Nat) (w : World) : (Builtin.firstCells size 0 x).run P w = .ok #[] w := by
  rcases h with ⟨a, n, c, rfl⟩ | ⟨b, rfl⟩
  · cases a with
    | none => rfl
    | some a =>
      simp only [Builtin.firstCells, Nat.zero_mul]
      have := run_firstCells_some (P := P) w size 0 a n c [] (by simp) (fun j x hx => by simp at hx)
      simpa [Builtin.firstCells] using this
  · simp [Builtin.firstCells]
theorem run_append_zero (w : World) (t ty e : TypeId) (i : TypeInfo) (ht : P.underlying t = some (.slice e)) (hi : P.info? e = some i) (base : Option Addr) (n cap : Nat) (h : n ≤ cap) (a : Option Addr) (c : Nat) :
    (Builtin.append_ #[t, t] ty #[.slice base n cap, .slice a 0 c]).run P w = .ok (.slice base n cap) w := by
  have hfc := firstCells_none (P := P) (Or.inl ⟨a, 0, c, rfl⟩) i.size w
  cases base with
  | none => simp [Builtin.append_, run_underlying ht, sizeOf, typeInfo, hi, Builtin.lenOf, h, hfc]
  | some b => simp [Builtin.append_, run_underlying ht, sizeOf, typeInfo, hi, Builtin.lenOf, h, hfc, storeCells]
def appendE (tb : Tb) (σ : St) (t t' : TypeId) (vs vx : Sv) : Tree OpE := match Nat.beq t t', emptyB vx, tb.und t with
  | true, true, some (.slice el) => match tb.info el with
    | some ti => match vs with
      | .one (.val (.slice none 0 0)) => valT vs
      | .one (.slc _ _ (.lit n) (.lit c)) => match Nat.ble n c with
        | true => valT vs
        | false => .fail
      | .one (.slc id _ (.lit n) (.nam c)) => match alook σ.bk id with
        | some (.ar _ _ cs (some (c', es))) => match Nat.beq c c' && (Nat.beq es ti.size && (Nat.blt 0 es && Nat.ble (n * es) cs.length)) with
          | true => .leaf ⟨some vs, [.k id], []⟩
          | false => .fail
        | _ => .fail
      | _ => .fail
    | none => .fail
  | true, false, _ => appendS tb σ t t' vs vx
  | _, _, _ => .fail
theorem emptyB_den {v : Sv} (h : emptyB v = true) (e : Env) : ∃ a c, v.den e = .slice a 0 c := by
  unfold emptyB at h
  split at h
  · exact ⟨_, _, rfl⟩
  · exact ⟨_, _, rfl⟩
  · cases h
theorem appendE_ok (hT : TbOk P tb) {x y : Operand} {t t' : TypeId} {vs vx : Sv} (ho : o.op = .call { callee := .builtin .append, args := #[x, y], argTypes := #[t, t'] }) (hx : evO σ x = some vs) (hy : evO σ y = some vx) : TreeOk P σ o (appendE tb σ t t' vs vx) := by
  unfold appendE
  split
  · rename_i el htt hem hu
    obtain rfl := beq_iff'.1 htt
    have ops : ∀ (s : Sto) (e : Env) (a : Act) (w : World) (base : Option Addr) (n cap : Nat), (∀ x ∈ o.op.operands, Sees σ s e a x) → vs.den e = .slice base n cap → n ≤ cap → ∀ ti, tb.info el = some ti → (execOp a.eval o).run P w = .ok (.value (vs.den e)) w ∧ vs.sc s := by
      intro s e a w base n cap hh hvs hle ti hti
      obtain ⟨x1, x2⟩ := hh x (by rw [ho]; simp [Op.operands, Call.operands]) _ hx
      obtain ⟨y1, _⟩ := hh y (by rw [ho]; simp [Op.operands, Call.operands]) _ hy
      obtain ⟨a2, c2, hvx⟩ := emptyB_den hem e
      refine ⟨?_, x2⟩
      rw [run_builtin ho]
      simp only [List.map_toArray, List.map_cons, List.map_nil, x1, y1, hvx, hvs]
      exact runV (run_append_zero (P := P) w t o.type el ti (hT.und hu) (hT.info hti) base n cap hle a2 c2)
    split
    · rename_i ti hti
      split
      · exact TreeOk.val fun s e a w hh => ops s e a w none 0 0 hh rfl (Nat.le_refl _) ti hti
      · rename_i n c
        split
        · rename_i hle
          exact TreeOk.val fun s e a w hh => ops s e a w _ n c hh rfl (by rwa [Nat.ble_eq] at hle) ti hti
        · exact TreeOk.fail
      · rename_i id off n c
        split
        · rename_i tt ro cs c' es hb
          split
          · rename_i hcc
            simp only [Bool.and_eq_true, beq_iff', blt_iff, Nat.ble_eq] at hcc
            obtain ⟨rfl, rfl, h0, h1⟩ := hcc
            refine TreeOk.leaf ?_
            intro C e s a w hp hh hl
            have hkid : s (.k id) = some (.bk (.ar tt ro cs.length (some (c, ti.size)))) := by
              rw [hl _ (by simp)]
              simp only [look, hb]; rfl
            obtain ⟨_, _, cur, _, hcsz, hn⟩ := hp.cp id _ c ti.size hkid rfl
            have hle : n ≤ e.nm c := by
              have h2 : n * ti.size ≤ e.nm c * ti.size := by
                rw [← hcsz]; exact Nat.le_trans h1 hn
              exact Nat.le_of_mul_le_mul_right h2 h0
            obtain ⟨r1, r2⟩ := ops s e a w _ n (e.nm c) hh rfl hle ti hti
            exact ⟨_, e, w, r1, Agree.refl _ _, hp, rfl, r2⟩
          · exact TreeOk.fail
        · exact TreeOk.fail
      · exact TreeOk.fail
    · exact TreeOk.fail
  · exact appendS_ok hT ho hx hy
  · exact TreeOk.fail

/-! A slice of a slice whose capacity has a name. -/
def capOf (σ : St) (id c size n : Nat) : Bool := match alook σ.bk id with
  | some (.ar _ _ cs (some (c', es))) => Nat.beq c c' && (Nat.beq es size && (Nat.blt 0 es && Nat.ble (n * es) cs.length))
  | _ => false
theorem capOf_le {id c size n : Nat} (h : capOf σ id c size n = true) {C : Ctx} {e : Env} {s : Sto} {w : World} (hp : Hp C e s w) (hk : s (.k id) = look σ (.k id)) : n ≤ e.nm c ∧ knn s c := by
  unfold capOf at h
  split at h
  · rename_i tt ro cs c' es hb
    simp only [Bool.and_eq_true, beq_iff', blt_iff, Nat.ble_eq] at h
    obtain ⟨rfl, rfl, h0, h1⟩ := h
    have hkid : s (.k id) = some (.bk (.ar tt ro cs.length (some (c, es)))) := by
      rw [hk]
      simp only [look, hb]; rfl
    obtain ⟨hkn, _, cur, _, hcsz, hn⟩ := hp.cp id _ c es hkid rfl
    refine ⟨?_, hkn⟩
    have h2 : n * es ≤ e.nm c * es := by
      rw [← hcsz]; exact Nat.le_trans h1 hn
    exact Nat.le_of_mul_le_mul_right h2 h0
  · cases h
def sliceN (tb : Tb) (σ : St) (t : TypeId) (id n c : Nat) (l h : Option Nat) : Tree OpE := match tb.und t with
  | some (.slice el) => match tb.info el with
    | some ti => match capOf σ id c ti.size n && (Nat.ble (lo0 l) (h.getD n) && Nat.ble (h.getD n) n) with
      | true => match Nat.beq (lo0 l) 0 with
        | true => .leaf ⟨some (.one (.slc id (.lit 0) (.lit (h.getD n)) (.nam c))), [.k id], []⟩
        | false => match Nat.blt (lo0 l) n && !memb σ.nl σ.nn with
          | true => .leaf ⟨some (.one (.slc id (.lit (lo0 l * ti.size)) (.lit (h.getD n - lo0 l)) (.nam σ.nn))), [.k id, .n σ.nn], [.nm σ.nn]⟩
          | false => match !memb σ.nl σ.nn && !memb σ.nl (σ.nn + 1) with
            | true => .leaf ⟨some (.one (.slc id (.nam (σ.nn + 1)) (.lit (h.getD n - lo0 l)) (.nam σ.nn))), [.k id, .n σ.nn, .n (σ.nn + 1)], [.nm σ.nn, .nm (σ.nn + 1)]⟩
            | false => .fail
      | false => .fail
    | none => .fail
  | _ => .fail
def sliceX (tb : Tb) (σ : St) (t : TypeId) (v : Sv) (lo hi mx : Option Operand) : Tree OpE := match mx with
  | none => bndT σ lo (lenB tb t v) fun l => bndT σ hi (lenB tb t v) fun h => match v with
    | .one (.slc id (.lit 0) (.lit n) (.nam c)) => sliceN tb σ t id n c l h
    | v => sliceC tb t v l h
  | some _ => .fail
theorem sliceN_ok (hT : TbOk P tb) {t : TypeId} {x : Operand} {lo hi : Option Operand} {id n c : Nat} (ho : o.op = .slice t x lo hi none) (hx : evO σ x = some (.one (.slc id (.lit 0) (.lit n) (.nam c)))) {l h : Option Nat} (hl : BndIs σ lo l) (hh : BndIs σ hi h) : TreeOk P σ o (sliceN tb σ t id n c l h) := by
  have sees : ∀ {s : Sto} {e : Env} {a : Act}, (∀ x ∈ o.op.operands, Sees σ s e a x) → ∀ y, (lo = some y ∨ hi = some y) → Sees σ s e a y := by
    intro s e a hh y hy
    refine hh y ?_
    rw [ho]
    rcases hy with rfl | rfl <;> simp [Op.operands]
  unfold sliceN
  split
  · rename_i el hu
    split
    · rename_i ti hti
      split
      · rename_i hb
        simp only [Bool.and_eq_true, Nat.ble_eq] at hb
        obtain ⟨hc, h1, h2⟩ := hb
        have run : ∀ (C : Ctx) (s : Sto) (e : Env) (a : Act) (w : World), Hp C e s w → (∀ x ∈ o.op.operands, Sees σ s e a x) → s (.k id) = look σ (.k id) → (execOp a.eval o).run P w = .ok (.value (.slice (if e.nm c = lo0 l then some (e.ad id 0) else some ((e.ad id 0).add (lo0 l * ti.size))) (h.getD n - lo0 l) (e.nm c - lo0 l))) w ∧ kn s id ∧ knn s c ∧ n ≤ e.nm c := by
          intro C s e a w hp hs hk
          obtain ⟨x1, x2⟩ := hs x (by rw [ho]; simp [Op.operands]) _ hx
          obtain ⟨k1, k2⟩ := capOf_le hc hp hk
          refine ⟨?_, x2.1, k2, k1⟩
          unfold execOp
          simp only [ho]
          rw [x1]
          refine runV ?_
          simp only [Instr.sliceAt, Sem.run_bind, run_und hT hu, Result.andThen_ok, Sv.den, Cv.den, Instr.slice, Sn.den, Option.map_none]
          rw [bnds_run hl hh (sees hs) true n (e.nm c) h1 (by omega)]
          simp only [Result.andThen_ok, run_size hT hti, Sem.run_pure, Option.map_some]
        split
        · rename_i h0
          have h0 := beq_iff'.1 h0
          refine TreeOk.leaf ?_
          intro C e s a w hp hs hlk
          obtain ⟨r, k1, k2, k3⟩ := run C s e a w hp hs (hlk _ (by simp))
          refine ⟨_, e, w, r, Agree.refl _ _, hp, ?_, k1, trivial, trivial, k2⟩
          simp only [Sv.den, Cv.den, Sn.den, h0, Nat.zero_mul, Nat.sub_zero]
          split
          · rfl
          · simp [Addr.add]
        · rename_i h0
          have h0 : lo0 l ≠ 0 := fun he => by rw [he] at h0; cases h0
          split
          · rename_i hb2
            simp only [Bool.and_eq_true, blt_iff, Bool.not_eq_true'] at hb2
            obtain ⟨hlt, hfr⟩ := hb2
            refine TreeOk.leaf ?_
            intro C e s a w hp hs hlk
            obtain ⟨r, k1, k2, k3⟩ := run C s e a w hp hs (hlk _ (by simp))
            have hnn : s (.n σ.nn) = none := by
              rw [hlk _ (by simp)]
              simp only [look, hfr, Bool.false_eq_true, if_false]
            obtain ⟨q1, q2⟩ := hp.name hnn (e.nm c - lo0 l)
            refine ⟨_, e.setNm σ.nn (e.nm c - lo0 l), w, r, q2, q1, ?_, ?_⟩
            · rw [if_neg (by omega)]
              simp only [Sv.den, Cv.den, Sn.den, ad_add, Nat.zero_add]
              have : (e.setNm σ.nn (e.nm c - lo0 l)).nm σ.nn = e.nm c - lo0 l := by simp [Env.setNm]
              rw [this]
              rfl
            · refine ⟨?_, trivial, trivial, ?_⟩
              · exact Sub.nm.1 _ k1
              · show knn _ _
                unfold knn; simp [upds, Wr.upd, Wr.fn]
          · split
            · rename_i hb2
              simp only [Bool.and_eq_true, Bool.not_eq_true'] at hb2
              obtain ⟨hf1, hf2⟩ := hb2
              refine TreeOk.leaf ?_
              intro C e s a w hp hs hlk
              obtain ⟨r, k1, k2, k3⟩ := run C s e a w hp hs (hlk _ (by simp))
              have hn1 : s (.n σ.nn) = none := by
                rw [hlk _ (by simp)]
                simp only [look, hf1, Bool.false_eq_true, if_false]
              have hn2 : s (.n (σ.nn + 1)) = none := by
                rw [hlk _ (by simp)]
                simp only [look, hf2, Bool.false_eq_true, if_false]
              obtain ⟨q1, q2⟩ := hp.name hn1 (e.nm c - lo0 l)
              have hn3 : (Wr.nm σ.nn).upd s (.n (σ.nn + 1)) = none := by
                simp [Wr.upd, Wr.fn, hn2]
              obtain ⟨p1, p2⟩ := q1.name hn3 (if e.nm c = lo0 l then 0 else lo0 l * ti.size)
              have hA : Agree s e ((e.setNm σ.nn (e.nm c - lo0 l)).setNm (σ.nn + 1) (if e.nm c = lo0 l then 0 else lo0 l * ti.size)) := by
                refine ⟨fun i hi => ?_, fun d hd => ?_⟩
                · rw [p2.1 i (Sub.nm.1 i hi), q2.1 i hi]
                · rw [p2.2 d (Sub.nm.2 d hd), q2.2 d hd]
              refine ⟨_, _, w, r, hA, p1, ?_, ?_⟩
              · have e1 : ((e.setNm σ.nn (e.nm c - lo0 l)).setNm (σ.nn + 1) (if e.nm c = lo0 l then 0 else lo0 l * ti.size)).nm (σ.nn + 1) = (if e.nm c = lo0 l then 0 else lo0 l * ti.size) := by simp [Env.setNm]
                have e2 : ((e.setNm σ.nn (e.nm c - lo0 l)).setNm (σ.nn + 1) (if e.nm c = lo0 l then 0 else lo0 l * ti.size)).nm σ.nn = e.nm c - lo0 l := by simp [Env.setNm]
                simp only [Sv.den, Cv.den, Sn.den, e1, e2]
                split
                · rfl
                · rw [ad_add, Nat.zero_add]
                  rfl
              · refine ⟨?_, ?_, trivial, ?_⟩
                · exact Sub.nm.1 _ (Sub.nm.1 _ k1)
                · show knn _ _
                  unfold knn; simp [upds, Wr.upd, Wr.fn]
                · show knn _ _
                  unfold knn; simp [upds, Wr.upd, Wr.fn]
            · exact TreeOk.fail
      · exact TreeOk.fail
    · exact TreeOk.fail
  · exact TreeOk.fail
theorem sliceX_ok (hT : TbOk P tb) {t : TypeId} {x : Operand} {lo hi mx : Option Operand} {v : Sv} (ho : o.op = .slice t x lo hi mx) (hx : evO σ x = some v) : TreeOk P σ o (sliceX tb σ t v lo hi mx) := by
  unfold sliceX
  split
  · refine bndT_ok fun l hl => bndT_ok fun h hh => ?_
    split
    · exact sliceN_ok hT ho hx hl hh
    · exact sliceC_ok hT ho hx hl hh
  · exact TreeOk.fail
end
end Sx
end Go.Proofs.YtpdhkgfdmpofiaaGreatDoor
