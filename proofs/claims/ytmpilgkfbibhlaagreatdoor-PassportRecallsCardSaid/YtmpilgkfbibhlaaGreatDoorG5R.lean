/-
 Drawn regions with calls: the class of the worlds behind a world.
-/
import Derived.Test.YtmpilgkfbibhlaaGreatDoorG0R
import Derived.Deep.QuietTactic
import Derived.Test.YtmpilgkfbibhlaaGreatDoorG2R
import Derived.Test.YtmpilgkfbibhlaaGreatDoorG4R
import Derived.Deep.Cut
import Derived.Maps.Own
import Derived.Maps.OwnSet
set_option linter.unusedSimpArgs false
set_option linter.unusedVariables false
namespace Go.Proofs.YtmpilgkfbibhlaaGreatDoor
open Go.RowKit
def WStep (w : World) : Type := { W : World // Below w.heap.size w W }
instance (w : World) : Nonempty (WStep w) := ⟨⟨w, Below.refl _ _⟩⟩
theorem wp_region_step {P : Program} {id : Nat} {Q : Exit → Act → World → Prop} {a : Act} {w : World} {l : List Oper} (hm : P.follows .mixedOrders = true) (hB : Region.lexB .any l.toArray = true)
  (h : wpQuiet P l.toArray (fun W => ∃ s : WStep w, W = s.1) (fun a' => ∀ w', (∃ s : WStep w, w' = s.1) → Q .normal a' w') l a) : (Code.region id l.toArray true).wp P Q a w :=
 wp_region_quiet (C := fun W => ∃ s : WStep w, W = s.1) hm hB ⟨⟨w.drew, (Below.refl _ _).drew⟩, rfl⟩ (by simpa using h)
theorem step_call {P : Program} {f : FuncId} {args : Array Value} {w : World} {v : Value} (s : WStep w) (h : Calls P f args s.1 fun e w' => e = .returned v ∧ Below s.1.heap.size s.1 w') :
  Calls P f args s.1 fun e w' => e = .returned v ∧ ∃ t : WStep w, w' = t.1 := h.mono fun _ w' q => ⟨q.1, ⟨w', bStep s.2 q.2⟩, rfl⟩
end Go.Proofs.YtmpilgkfbibhlaaGreatDoor
namespace Go.Proofs.YtmpilgkfbibhlaaGreatDoor
open Go.RowKit Mr
def evX : Evt → Value
  | (k, t, a, b, nm, ot) => .agg #[.int .i64 k, .int .i64 t, .int .i64 a, .int .i64 b, .string nm, .string ot]
def lifeCs (name : ByteArray) (x : LifeS) (vm vo : Value) : List Value :=
  [.string name, .int .i64 (x.n : Int), .int .i64 x.at_, .int .i64 x.made.1, .int .i64 x.made.2.1, .int .i64 x.made.2.2.1, .int .i64 x.made.2.2.2.1, .string x.made.2.2.2.2.1, .string x.made.2.2.2.2.2, vm, vo,
   .int .i64 x.thr, .int .i64 x.hot, .bool x.tst, .int .i64 x.tes, .int .i64 x.fau, .int .i64 x.mov, .bool x.scr]
structure LifeAt (T : TypeId) (B off : Nat) (name : ByteArray) (x : LifeS) (vm vo : Value) (W : World) : Prop where
  blk : ∃ cs : Array Value, W.heap[B]? = some (.cells cs T (0, 0)) ∧ ∀ (j : Nat) (u : Value), (lifeCs name x vm vo)[j]? = some u → cs[off + j]? = some u
  ms : SRow vm x.ms W
  os : SRow vo x.os W
section
variable {T : TypeId} {B off : Nat} {name : ByteArray} {x : LifeS} {vm vo : Value} {W w2 : World}
theorem LifeAt.step (h : LifeAt T B off name x vm vo W) (hb : Below W.heap.size W w2) : LifeAt T B off name x vm vo w2 := by
  obtain ⟨⟨cs, h1, h2⟩, h3, h4⟩ := h
  exact ⟨⟨cs, blk_step h1 hb, h2⟩, h3.step hb, h4.step hb⟩
theorem LifeAt.cell (h : LifeAt T B off name x vm vo W) {j : Nat} {u : Value} (hj : (lifeCs name x vm vo)[j]? = some u) : W.cell? ⟨B, off + j, none⟩ = some u := by
  obtain ⟨⟨cs, h1, h2⟩, h3, h4⟩ := h
  exact blk_cell h1 (h2 j u hj)
theorem LifeAt.lt (h : LifeAt T B off name x vm vo W) : B < W.heap.size := by
  obtain ⟨⟨cs, h1, h2⟩, h3, h4⟩ := h
  exact blk_lt h1
theorem LifeAt.free (h : LifeAt T B off name x vm vo W) (j : Nat) : W.frozen? ⟨B, off + j, none⟩ = false := by
  obtain ⟨⟨cs, h1, h2⟩, h3, h4⟩ := h
  exact blk_free h1
theorem LifeAt.open1 (h : LifeAt T B off name x vm vo W) : W.cell? ⟨B, off, none⟩ = some (.string name) ∧ W.cell? ⟨B, off + 1, none⟩ = some (.int .i64 (x.n : Int)) ∧ W.cell? ⟨B, off + 2, none⟩ = some (.int .i64 x.at_) ∧ W.cell? ⟨B, off + 9, none⟩ = some vm ∧ W.cell? ⟨B, off + 10, none⟩ = some vo ∧ W.cell? ⟨B, off + 17, none⟩ = some (.bool x.scr) ∧ B < W.heap.size :=
  ⟨h.cell (j := 0) rfl, h.cell (j := 1) rfl, h.cell (j := 2) rfl, h.cell (j := 9) rfl, h.cell (j := 10) rfl, h.cell (j := 17) rfl, h.lt⟩
end
set_option maxHeartbeats 4000000 in
theorem can_first {T : TypeId} {B off : Nat} {name : ByteArray} {x : LifeS} {vm vo : Value} {w : World} (h : LifeAt T B off name x vm vo w) (hn : x.n = 0) (k t a b : Int) (nm ot : ByteArray) :
    Calls Tryz.prog 43 #[.pointer (some ⟨B, off, none⟩), .agg #[.int .i64 k, .int .i64 t, .int .i64 a, .int .i64 b, .string nm, .string ot]] w fun e w' => e = .returned (.bool (decide (k = 1))) ∧ Below w.heap.size w w' := by
  obtain ⟨c0, c1, c2, c9, c10, c17, cl⟩ := h.open1
  replace c1 : w.cell? ⟨B, off + 1, none⟩ = some (.int .i64 0) := by rw [hn] at c1; exact c1
  clear h hn
  go_enter Tryz.func43, Tryz.ntmps43
  go_wp2_with fail
  go_ret
  exact ⟨rfl, (by repeat' (first | exact Below.refl _ _ | assumption | apply bDrewN | apply bDrew | apply bAlloc | (refine bSet ?_ ?_ _) | (refine bStep ?_ (by assumption)) | omega | (simp <;> omega)))⟩
set_option maxHeartbeats 4000000 in
theorem can_late {T : TypeId} {B off : Nat} {name : ByteArray} {x : LifeS} {vm vo : Value} {w : World} (h : LifeAt T B off name x vm vo w) (hn : ¬ x.n = 0) (k t a b : Int) (nm ot : ByteArray) (ht : t < x.at_ ∨ (¬ t < x.at_ ∧ x.scr = true)) :
    Calls Tryz.prog 43 #[.pointer (some ⟨B, off, none⟩), .agg #[.int .i64 k, .int .i64 t, .int .i64 a, .int .i64 b, .string nm, .string ot]] w fun e w' => e = .returned (.bool false) ∧ Below w.heap.size w w' := by
  obtain ⟨c0, c1, c2, c9, c10, c17, cl⟩ := h.open1
  have hn2 : ((x.n : Int) == 0) = false := by simpa using hn
  rcases ht with ht | ⟨ht, hs⟩
  · clear h hn
    go_enter Tryz.func43, Tryz.ntmps43
    go_upto_region 3 with fail
    go_quiet (fail)
    go_wp2_with fail
    go_ret
    exact ⟨rfl, (by repeat' (first | exact Below.refl _ _ | assumption | apply bDrewN | apply bDrew | apply bAlloc | (refine bSet ?_ ?_ _) | (refine bStep ?_ (by assumption)) | omega | (simp <;> omega)))⟩
  · rw [hs] at c17
    have ht2 : decide (t < x.at_) = false := decide_eq_false ht
    clear h hn hs ht
    go_enter Tryz.func43, Tryz.ntmps43
    go_upto_region 3 with fail
    go_quiet (fail)
    go_wp2_with fail
    go_ret
    exact ⟨rfl, (by repeat' (first | exact Below.refl _ _ | assumption | apply bDrewN | apply bDrew | apply bAlloc | (refine bSet ?_ ?_ _) | (refine bStep ?_ (by assumption)) | omega | (simp <;> omega)))⟩
structure CanB (bx be B off : Nat) (k t a b : Int) (nm ot : ByteArray) (W : World) : Prop where
  p : W.cell? ⟨bx, 0, none⟩ = some (.pointer (some ⟨B, off, none⟩))
  e0 : W.cell? ⟨be, 0, none⟩ = some (.int .i64 k)
  e4 : W.cell? ⟨be, 4, none⟩ = some (.string nm)
  e5 : W.cell? ⟨be, 5, none⟩ = some (.string ot)
  l1 : bx < W.heap.size
  l2 : be < W.heap.size
theorem CanB.step {bx be B off : Nat} {k t a b : Int} {nm ot : ByteArray} {W w2 : World} (h : CanB bx be B off k t a b nm ot W) (hb : Below W.heap.size W w2) : CanB bx be B off k t a b nm ot w2 :=
  ⟨cell_step h.p hb, cell_step h.e0 hb, cell_step h.e4 hb, cell_step h.e5 hb, Nat.lt_of_lt_of_le h.l1 hb.size, Nat.lt_of_lt_of_le h.l2 hb.size⟩
theorem has_step {v : Value} {l : List ByteArray} {w : World} (h : SRow v l w) (hl : l.length ≤ 1000000) (s : ByteArray) : Hid (∀ W : WStep w, Calls Tryz.prog 99 #[v, .string s] W.1 fun e w' => e = .returned (.bool (hasT l s)) ∧ ∃ t : WStep w, w' = t.1) :=
  fun W => (has_any (h.step W.2) hl s).mono fun e w' q => ⟨q.1, W, q.2⟩
set_option maxHeartbeats 2000000 in
theorem can2_any {T : TypeId} {B off : Nat} {name : ByteArray} {x : LifeS} {vm vo : Value} {w : World} (h : LifeAt T B off name x vm vo w) (bx be : Nat) (k t a b : Int) (nm ot : ByteArray) (hb : CanB bx be B off k t a b nm ot w) (hl : x.ms.length ≤ 1000000) :
    Calls Tryz.prog 98 #[.pointer (some ⟨bx, 0, none⟩), .pointer (some ⟨be, 0, none⟩)] w fun e w' => e = .returned (.bool (!(hasT x.ms nm) && decide (x.ms.length < 32) && !(eqT ot name))) ∧ Below w.heap.size w w' := by
  have CX := has_step h.ms hl nm
  obtain ⟨am, cm, rfl, -⟩ := h.ms
  unfold eqT
  have QL : ∀ s : WStep w, LifeAt T B off name x _ _ s.1 := fun s => h.step s.2
  have QB : ∀ s : WStep w, CanB bx be B off k t a b nm ot s.1 := fun s => hb.step s.2
  have c0 := fun s => (QL s).open1.1
  have c9 := fun s => (QL s).open1.2.2.2.1
  have c10 := fun s => (QL s).open1.2.2.2.2.1
  have p0 := fun s => (QB s).p
  have p4 := fun s => (QB s).e4
  have p5 := fun s => (QB s).e5
  clear QL QB
  clear hl h hb
  generalize hasT x.ms nm = r1 at *
  cases r1
  · by_cases hc : x.ms.length < 32
    · rw [decide_eq_true hc]
      have hc2 : (x.ms.length : Int) < 32 := by omega
      clear hc
      go_enter Tryz.func98, Tryz.ntmps98
      go_upto_region 1 with fail
      refine wp_region_step (by kernel_rfl) (by kernel_rfl) ?_
      repeat (quiet_step (with_reducible exact CX.out _))
      refine wpQuiet_nil ?_
      intro W2 hw'
      obtain ⟨⟨W3, hW3⟩, hw''⟩ := hw'
      dsimp only at hw''
      subst hw''
      go_wp2_with fail
      go_ret
      exact ⟨rfl, hW3⟩
    · rw [decide_eq_false hc]
      have hc2 : ¬ (x.ms.length : Int) < 32 := by omega
      clear hc
      go_enter Tryz.func98, Tryz.ntmps98
      go_upto_region 1 with fail
      refine wp_region_step (by kernel_rfl) (by kernel_rfl) ?_
      repeat (quiet_step (with_reducible exact CX.out _))
      refine wpQuiet_nil ?_
      intro W2 hw'
      obtain ⟨⟨W3, hW3⟩, hw''⟩ := hw'
      dsimp only at hw''
      subst hw''
      go_wp2_with fail
      go_ret
      exact ⟨rfl, hW3⟩
  · go_enter Tryz.func98, Tryz.ntmps98
    go_upto_region 1 with fail
    refine wp_region_step (by kernel_rfl) (by kernel_rfl) ?_
    repeat (quiet_step (with_reducible exact CX.out _))
    refine wpQuiet_nil ?_
    intro W2 hw'
    obtain ⟨⟨W3, hW3⟩, hw''⟩ := hw'
    dsimp only at hw''
    subst hw''
    go_wp2_with fail
    go_ret
    exact ⟨rfl, hW3⟩
set_option maxHeartbeats 2000000 in
theorem can3_any {T : TypeId} {B off : Nat} {name : ByteArray} {x : LifeS} {vm vo : Value} {w : World} (h : LifeAt T B off name x vm vo w) (bx be : Nat) (k t a b : Int) (nm ot : ByteArray) (hb : CanB bx be B off k t a b nm ot w) (hl : x.ms.length ≤ 1000000) :
    Calls Tryz.prog 100 #[.pointer (some ⟨bx, 0, none⟩), .pointer (some ⟨be, 0, none⟩)] w fun e w' => e = .returned (.bool (hasT x.ms nm && !(eqT ot name))) ∧ Below w.heap.size w w' := by
  have CX := has_step h.ms hl nm
  unfold eqT
  have QL : ∀ s : WStep w, LifeAt T B off name x _ _ s.1 := fun s => h.step s.2
  have QB : ∀ s : WStep w, CanB bx be B off k t a b nm ot s.1 := fun s => hb.step s.2
  have c0 := fun s => (QL s).open1.1
  have c9 := fun s => (QL s).open1.2.2.2.1
  have c10 := fun s => (QL s).open1.2.2.2.2.1
  have p0 := fun s => (QB s).p
  have p4 := fun s => (QB s).e4
  have p5 := fun s => (QB s).e5
  clear QL QB
  clear hl h hb
  generalize hasT x.ms nm = r1 at *
  cases r1
  · go_enter Tryz.func100, Tryz.ntmps100
    go_upto_region 1 with fail
    refine wp_region_step (by kernel_rfl) (by kernel_rfl) ?_
    repeat (quiet_step (with_reducible exact CX.out _))
    refine wpQuiet_nil ?_
    intro W2 hw'
    obtain ⟨⟨W3, hW3⟩, hw''⟩ := hw'
    dsimp only at hw''
    subst hw''
    go_wp2_with fail
    go_ret
    exact ⟨rfl, hW3⟩
  · go_enter Tryz.func100, Tryz.ntmps100
    go_upto_region 1 with fail
    refine wp_region_step (by kernel_rfl) (by kernel_rfl) ?_
    repeat (quiet_step (with_reducible exact CX.out _))
    refine wpQuiet_nil ?_
    intro W2 hw'
    obtain ⟨⟨W3, hW3⟩, hw''⟩ := hw'
    dsimp only at hw''
    subst hw''
    go_wp2_with fail
    go_ret
    exact ⟨rfl, hW3⟩
set_option maxHeartbeats 2000000 in
theorem can4_any {T : TypeId} {B off : Nat} {name : ByteArray} {x : LifeS} {vm vo : Value} {w : World} (h : LifeAt T B off name x vm vo w) (bx be : Nat) (k t a b : Int) (nm ot : ByteArray) (hb : CanB bx be B off k t a b nm ot w) (hl : x.os.length ≤ 1000000) :
    Calls Tryz.prog 101 #[.pointer (some ⟨bx, 0, none⟩), .pointer (some ⟨be, 0, none⟩)] w fun e w' => e = .returned (.bool (!(hasT x.os nm))) ∧ Below w.heap.size w w' := by
  have CX := has_step h.os hl nm
  have QL : ∀ s : WStep w, LifeAt T B off name x _ _ s.1 := fun s => h.step s.2
  have QB : ∀ s : WStep w, CanB bx be B off k t a b nm ot s.1 := fun s => hb.step s.2
  have c0 := fun s => (QL s).open1.1
  have c9 := fun s => (QL s).open1.2.2.2.1
  have c10 := fun s => (QL s).open1.2.2.2.2.1
  have p0 := fun s => (QB s).p
  have p4 := fun s => (QB s).e4
  have p5 := fun s => (QB s).e5
  clear QL QB
  clear hl h hb
  generalize hasT x.os nm = r1 at *
  go_enter Tryz.func101, Tryz.ntmps101
  go_upto_region 1 with fail
  refine wp_region_step (by kernel_rfl) (by kernel_rfl) ?_
  repeat (quiet_step (with_reducible exact CX.out _))
  refine wpQuiet_nil ?_
  intro W2 hw'
  obtain ⟨⟨W3, hW3⟩, hw''⟩ := hw'
  dsimp only at hw''
  subst hw''
  go_wp2_with fail
  go_ret
  exact ⟨rfl, hW3⟩
set_option maxHeartbeats 2000000 in
theorem can5_any {T : TypeId} {B off : Nat} {name : ByteArray} {x : LifeS} {vm vo : Value} {w : World} (h : LifeAt T B off name x vm vo w) (bx be : Nat) (k t a b : Int) (nm ot : ByteArray) (hb : CanB bx be B off k t a b nm ot w) (hl : x.os.length ≤ 1000000) :
    Calls Tryz.prog 102 #[.pointer (some ⟨bx, 0, none⟩), .pointer (some ⟨be, 0, none⟩)] w fun e w' => e = .returned (.bool (hasT x.os nm)) ∧ Below w.heap.size w w' := by
  have CX := has_step h.os hl nm
  have QL : ∀ s : WStep w, LifeAt T B off name x _ _ s.1 := fun s => h.step s.2
  have QB : ∀ s : WStep w, CanB bx be B off k t a b nm ot s.1 := fun s => hb.step s.2
  have c0 := fun s => (QL s).open1.1
  have c9 := fun s => (QL s).open1.2.2.2.1
  have c10 := fun s => (QL s).open1.2.2.2.2.1
  have p0 := fun s => (QB s).p
  have p4 := fun s => (QB s).e4
  have p5 := fun s => (QB s).e5
  clear QL QB
  clear hl h hb
  generalize hasT x.os nm = r1 at *
  go_enter Tryz.func102, Tryz.ntmps102
  go_upto_region 1 with fail
  refine wp_region_step (by kernel_rfl) (by kernel_rfl) ?_
  repeat (quiet_step (with_reducible exact CX.out _))
  refine wpQuiet_nil ?_
  intro W2 hw'
  obtain ⟨⟨W3, hW3⟩, hw''⟩ := hw'
  dsimp only at hw''
  subst hw''
  go_wp2_with fail
  go_ret
  exact ⟨rfl, hW3⟩
set_option maxHeartbeats 2000000 in
theorem can6_any {T : TypeId} {B off : Nat} {name : ByteArray} {x : LifeS} {vm vo : Value} {w : World} (h : LifeAt T B off name x vm vo w) (bx be : Nat) (k t a b : Int) (nm ot : ByteArray) (hb : CanB bx be B off k t a b nm ot w) :
    Calls Tryz.prog 103 #[.pointer (some ⟨bx, 0, none⟩)] w fun e w' => e = .returned (.bool (decide (x.ms.length = 0))) ∧ Below w.heap.size w w' := by
  obtain ⟨am, cm, rfl, -⟩ := h.ms
  have c9 := h.open1.2.2.2.1
  have p0 := hb.p
  have cl := h.lt
  have hd : decide (x.ms.length = 0) = ((x.ms.length : Int) == 0) := by
    by_cases e : x.ms.length = 0
    · rw [decide_eq_true e, e]; rfl
    · rw [decide_eq_false e]; symm; simpa using e
  rw [hd]
  clear h hb hd
  go_enter Tryz.func103, Tryz.ntmps103
  go_wp2_with fail
  go_ret
  exact ⟨rfl, Below.refl _ _⟩
theorem can1_any (w : World) : Calls Tryz.prog 97 #[] w fun e w' => e = .returned (.bool false) ∧ Below w.heap.size w w' := by
  go_enter Tryz.func97, Tryz.ntmps97
  go_wp2_with fail
  go_ret
  exact ⟨rfl, Below.refl _ _⟩
end Go.Proofs.YtmpilgkfbibhlaaGreatDoor
namespace Go.Proofs.YtmpilgkfbibhlaaGreatDoor
open Go.RowKit Go.Instr Go.ChangeMaps
theorem checkKey_int {P : Program} {w : World} {k : TypeId} {q : IntKind} (hk : P.underlying k = some (.int q)) (em : Bool) (v : Value) : (checkKey em 10000 k v).run P w = .ok () w := by
 unfold checkKey
 simp [run_underlying hk]
theorem findKey_int {P : Program} {w : World} {k : TypeId} {q : IntKind} (hk : P.underlying k = some (.int q)) {v : Value} {es : List MapEntry} {r : Option (Nat × Value)} (h : findNow (.int q) v es 0 = some r) : (findKey k v es).run P w = .ok r w := by
 unfold findKey
 simp [run_underlying hk, h]
theorem run_insert {P : Program} {w : World} {t k e : TypeId} {q : IntKind} {b clock : Nat} {es : Array MapEntry} {key val : Value} (ht : P.underlying t = some (.map k e)) (hk : P.underlying k = some (.int q)) (hb : w.heap[b]? = some (.map es clock)) (h : findNow (.int q) key es.toList 0 = some none) :
  (mapUpdate t (.map (some b)) key val).run P w = .ok () (setBlock w b (.map (es.push { key, val, born := clock }) (clock + 1))) := by
 unfold mapUpdate
 simp [run_underlying ht, MapKept.run_getObj_map hb, checkKey_int hk, findKey_int hk h, Result.andThen, MapKept.run_setObj_map _ hb, setBlock]
theorem run_look {P : Program} {w : World} {t k e : TypeId} {q : IntKind} {b clock i : Nat} {es : Array MapEntry} {key val : Value} (ht : P.underlying t = some (.map k e)) (hk : P.underlying k = some (.int q)) (hb : w.heap[b]? = some (.map es clock)) (h : findNow (.int q) key es.toList 0 = some (some (i, val))) :
  (lookup t (.map (some b)) key true).run P w = .ok (.tuple #[val, .bool true]) w := by
 unfold lookup
 simp [run_underlying ht, MapKept.run_getObj_map hb, checkKey_int hk, findKey_int hk h, Result.andThen]
theorem run_look_no {P : Program} {w : World} {t k e : TypeId} {q : IntKind} {b clock : Nat} {es : Array MapEntry} {key z : Value} (ht : P.underlying t = some (.map k e)) (hk : P.underlying k = some (.int q)) (hb : w.heap[b]? = some (.map es clock)) (h : findNow (.int q) key es.toList 0 = some none) (hz : (zeroValue e).run P w = .ok z w) :
  (lookup t (.map (some b)) key true).run P w = .ok (.tuple #[z, .bool false]) w := by
 unfold lookup
 simp [run_underlying ht, MapKept.run_getObj_map hb, checkKey_int hk, findKey_int hk h, hz, Result.andThen]
theorem wpList_insert {P : Program} {w : World} {ops : Array Oper} {rest : List Oper} {o : Oper} {a : Act} {Q : Exit → Act → World → Prop}
  (hg : o.guard = none) (m x v : Operand) (t : TypeId) (hop : o.op = Op.insert t m x v) (k e : TypeId) (q : IntKind) (ht : P.underlying t = some (.map k e)) (hk : P.underlying k = some (.int q))
  (b clock : Nat) (es : Array MapEntry) (hb : w.heap[b]? = some (.map es clock)) (key val : Value) (hm : a.eval m = .map (some b)) (hx : a.eval x = key) (hv : a.eval v = val) (h : findNow (.int q) key es.toList 0 = some none)
  (hK : ∀ w', w'.heap[b]? = some (.map (es.push { key, val, born := clock }) (clock + 1)) → w.grownBy w' (some b) → wpList P ops Q rest (a.put o.dst undef) w') :
  wpList P ops Q (o :: rest) a w := by
 refine wpList_plain hg fun K' hK' => ?_
 have hrun := run_insert (val := val) ht hk hb h
 unfold Oper.wp
 simp [execOp, hop, hm, hx, hv, hrun, Result.andThen]
 exact hK' _ _ (hK _ (heap_setBlock_same hb _) ⟨rfl, rfl, rfl, by simp [setBlock], fun i _ hi => heap_setBlock_other hb _ (fun e => hi (by rw [e]))⟩)
theorem wpList_insert2 {P : Program} {w : World} {ops : Array Oper} {rest : List Oper} {a : Act} {Q : Exit → Act → World → Prop} {m x v : Operand} {t ty k e : TypeId} {ps : String} {af : Array Edge} {q : IntKind} {b clock : Nat} {es : Array MapEntry} {key val : Value}
  (hb : w.heap[b]? = some (.map es clock)) (ht : P.underlying t = some (.map k e)) (hk : P.underlying k = some (.int q)) (hm : a.eval m = .map (some b)) (hx : a.eval x = key) (hv : a.eval v = val) (h : findNow (.int q) key es.toList 0 = some none)
  (hK : ∀ w', w'.heap[b]? = some (.map (es.push { key, val, born := clock }) (clock + 1)) → w.grownBy w' (some b) → wpList P ops Q rest (a.put none undef) w') :
  wpList P ops Q ({ dst := none, op := .insert t m x v, type := ty, pos := ps, after := af, guard := none } :: rest) a w :=
 wpList_insert rfl m x v t rfl k e q ht hk b clock es hb key val hm hx hv h hK
end Go.Proofs.YtmpilgkfbibhlaaGreatDoor
