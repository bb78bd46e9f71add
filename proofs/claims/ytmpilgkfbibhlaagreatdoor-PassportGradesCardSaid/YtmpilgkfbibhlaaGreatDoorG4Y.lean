/-
  A life in memory; can.
-/
import Derived.Test.YtmpilgkfbibhlaaGreatDoorG1Y
import Derived.Test.YtmpilgkfbibhlaaGreatDoorG3Y
import Derived.Deep.Cut
import Derived.Test.YtmpilgkfbibhlaaGreatDoorG0Y
import Derived.Maps.Own
import Derived.Maps.OwnSet
set_option linter.unusedSimpArgs false
set_option linter.unusedVariables false
namespace Go.Proofs.YtmpilgkfbibhlaaGreatDoor
open Go.RowKit Mr
def evX : Evt → Value
  | (k, t, a, b, nm, ot) => .agg #[.int .i64 k, .int .i64 t, .int .i64 a, .int .i64 b, .string nm, .string ot]
def lifeCs (name : ByteArray) (x : LifeS) (vm vo : Value) : List Value :=
  [.string name, .int .i64 (x.n : Int), .int .i64 x.at_, .int .i64 x.made.1, .int .i64 x.made.2.1, .int .i64 x.made.2.2.1, .int .i64 x.made.2.2.2.1, .string x.made.2.2.2.2.1, .string x.made.2.2.2.2.2, vm, vo,
   .int .i64 x.thr, .int .i64 x.hot, .bool x.tst, .int .i64 x.tes, .int .i64 x.fau, .int .i64 x.mov, .bool x.scr]
structure LifeAt (T : TypeId) (B off : Nat) (name : ByteArray) (x : LifeS) (vm vo : Value) (W : World) : Prop where
  blk : ∃ cs : Array Value, W.heap[B]? = some (.cells cs T (0, 0)) ∧ ∀ (j : Nat) (u : Value), (lifeCs name x vm vo)[j]? = some u → cs[off + j]? = some u
  ms : SRow vm x.ms W
  os : SRow vo x.os W
section
variable {T : TypeId} {B off : Nat} {name : ByteArray} {x : LifeS} {vm vo : Value} {W w2 : World}
theorem LifeAt.step (h : LifeAt T B off name x vm vo W) (hb : Below W.heap.size W w2) : LifeAt T B off name x vm vo w2 := by
  obtain ⟨⟨cs, h1, h2⟩, h3, h4⟩ := h
  exact ⟨⟨cs, blk_step h1 hb, h2⟩, h3.step hb, h4.step hb⟩
theorem LifeAt.cell (h : LifeAt T B off name x vm vo W) {j : Nat} {u : Value} (hj : (lifeCs name x vm vo)[j]? = some u) : W.cell? ⟨B, off + j, none⟩ = some u := by
  obtain ⟨⟨cs, h1, h2⟩, h3, h4⟩ := h
  exact blk_cell h1 (h2 j u hj)
theorem LifeAt.lt (h : LifeAt T B off name x vm vo W) : B < W.heap.size := by
  obtain ⟨⟨cs, h1, h2⟩, h3, h4⟩ := h
  exact blk_lt h1
theorem LifeAt.free (h : LifeAt T B off name x vm vo W) (j : Nat) : W.frozen? ⟨B, off + j, none⟩ = false := by
  obtain ⟨⟨cs, h1, h2⟩, h3, h4⟩ := h
  exact blk_free h1
theorem LifeAt.open1 (h : LifeAt T B off name x vm vo W) : W.cell? ⟨B, off, none⟩ = some (.string name) ∧ W.cell? ⟨B, off + 1, none⟩ = some (.int .i64 (x.n : Int)) ∧ W.cell? ⟨B, off + 2, none⟩ = some (.int .i64 x.at_) ∧ W.cell? ⟨B, off + 9, none⟩ = some vm ∧ W.cell? ⟨B, off + 10, none⟩ = some vo ∧ W.cell? ⟨B, off + 17, none⟩ = some (.bool x.scr) ∧ B < W.heap.size :=
  ⟨h.cell (j := 0) rfl, h.cell (j := 1) rfl, h.cell (j := 2) rfl, h.cell (j := 9) rfl, h.cell (j := 10) rfl, h.cell (j := 17) rfl, h.lt⟩
end
set_option maxHeartbeats 4000000 in
theorem can_first {T : TypeId} {B off : Nat} {name : ByteArray} {x : LifeS} {vm vo : Value} {w : World} (h : LifeAt T B off name x vm vo w) (hn : x.n = 0) (k t a b : Int) (nm ot : ByteArray) :
    Calls Tryz.prog 43 #[.pointer (some ⟨B, off, none⟩), .agg #[.int .i64 k, .int .i64 t, .int .i64 a, .int .i64 b, .string nm, .string ot]] w fun e w' => e = .returned (.bool (decide (k = 1))) ∧ Below w.heap.size w w' := by
  obtain ⟨c0, c1, c2, c9, c10, c17, cl⟩ := h.open1
  replace c1 : w.cell? ⟨B, off + 1, none⟩ = some (.int .i64 0) := by rw [hn] at c1; exact c1
  clear h hn
  go_enter Tryz.func43, Tryz.ntmps43
  go_wp2_with fail
  go_ret
  exact ⟨rfl, (by repeat' (first | exact Below.refl _ _ | assumption | apply bDrewN | apply bDrew | apply bAlloc | (refine bSet ?_ ?_ _) | (refine bStep ?_ (by assumption)) | omega | (simp <;> omega)))⟩
set_option maxHeartbeats 4000000 in
theorem can_late {T : TypeId} {B off : Nat} {name : ByteArray} {x : LifeS} {vm vo : Value} {w : World} (h : LifeAt T B off name x vm vo w) (hn : ¬ x.n = 0) (k t a b : Int) (nm ot : ByteArray) (ht : t < x.at_ ∨ (¬ t < x.at_ ∧ x.scr = true)) :
    Calls Tryz.prog 43 #[.pointer (some ⟨B, off, none⟩), .agg #[.int .i64 k, .int .i64 t, .int .i64 a, .int .i64 b, .string nm, .string ot]] w fun e w' => e = .returned (.bool false) ∧ Below w.heap.size w w' := by
  obtain ⟨c0, c1, c2, c9, c10, c17, cl⟩ := h.open1
  have hn2 : ((x.n : Int) == 0) = false := by simpa using hn
  rcases ht with ht | ⟨ht, hs⟩
  · clear h hn
    go_enter Tryz.func43, Tryz.ntmps43
    go_upto_region 3 with fail
    go_quiet (fail)
    go_wp2_with fail
    go_ret
    exact ⟨rfl, (by repeat' (first | exact Below.refl _ _ | assumption | apply bDrewN | apply bDrew | apply bAlloc | (refine bSet ?_ ?_ _) | (refine bStep ?_ (by assumption)) | omega | (simp <;> omega)))⟩
  · rw [hs] at c17
    have ht2 : decide (t < x.at_) = false := decide_eq_false ht
    clear h hn hs ht
    go_enter Tryz.func43, Tryz.ntmps43
    go_upto_region 3 with fail
    go_quiet (fail)
    go_wp2_with fail
    go_ret
    exact ⟨rfl, (by repeat' (first | exact Below.refl _ _ | assumption | apply bDrewN | apply bDrew | apply bAlloc | (refine bSet ?_ ?_ _) | (refine bStep ?_ (by assumption)) | omega | (simp <;> omega)))⟩
structure CanB (bx be B off : Nat) (k t a b : Int) (nm ot : ByteArray) (W : World) : Prop where
  p : W.cell? ⟨bx, 0, none⟩ = some (.pointer (some ⟨B, off, none⟩))
  e0 : W.cell? ⟨be, 0, none⟩ = some (.int .i64 k)
  e4 : W.cell? ⟨be, 4, none⟩ = some (.string nm)
  e5 : W.cell? ⟨be, 5, none⟩ = some (.string ot)
  l1 : bx < W.heap.size
  l2 : be < W.heap.size
theorem CanB.step {bx be B off : Nat} {k t a b : Int} {nm ot : ByteArray} {W w2 : World} (h : CanB bx be B off k t a b nm ot W) (hb : Below W.heap.size W w2) : CanB bx be B off k t a b nm ot w2 :=
  ⟨cell_step h.p hb, cell_step h.e0 hb, cell_step h.e4 hb, cell_step h.e5 hb, Nat.lt_of_lt_of_le h.l1 hb.size, Nat.lt_of_lt_of_le h.l2 hb.size⟩
theorem has_step {v : Value} {l : List ByteArray} {w : World} (h : SRow v l w) (hl : l.length ≤ 1000000) (s : ByteArray) : Hid (∀ W : WStep w, Calls Tryz.prog 99 #[v, .string s] W.1 fun e w' => e = .returned (.bool (hasT l s)) ∧ ∃ t : WStep w, w' = t.1) :=
  fun W => (has_any (h.step W.2) hl s).mono fun e w' q => ⟨q.1, W, q.2⟩
set_option maxHeartbeats 2000000 in
theorem can2_any {T : TypeId} {B off : Nat} {name : ByteArray} {x : LifeS} {vm vo : Value} {w : World} (h : LifeAt T B off name x vm vo w) (bx be : Nat) (k t a b : Int) (nm ot : ByteArray) (hb : CanB bx be B off k t a b nm ot w) (hl : x.ms.length ≤ 1000000) :
    Calls Tryz.prog 98 #[.pointer (some ⟨bx, 0, none⟩), .pointer (some ⟨be, 0, none⟩)] w fun e w' => e = .returned (.bool (!(hasT x.ms nm) && decide (x.ms.length < 32) && !(eqT ot name))) ∧ Below w.heap.size w w' := by
  have CX := has_step h.ms hl nm
  obtain ⟨am, cm, rfl, -⟩ := h.ms
  unfold eqT
  have QL : ∀ s : WStep w, LifeAt T B off name x _ _ s.1 := fun s => h.step s.2
  have QB : ∀ s : WStep w, CanB bx be B off k t a b nm ot s.1 := fun s => hb.step s.2
  have c0 := fun s => (QL s).open1.1
  have c9 := fun s => (QL s).open1.2.2.2.1
  have c10 := fun s => (QL s).open1.2.2.2.2.1
  have p0 := fun s => (QB s).p
  have p4 := fun s => (QB s).e4
  have p5 := fun s => (QB s).e5
  clear QL QB
  clear hl h hb
  generalize hasT x.ms nm = r1 at *
  cases r1
  · by_cases hc : x.ms.length < 32
    · rw [decide_eq_true hc]
      have hc2 : (x.ms.length : Int) < 32 := by omega
      clear hc
      go_enter Tryz.func98, Tryz.ntmps98
      go_upto_region 1 with fail
      refine wp_region_step (by kernel_rfl) (by kernel_rfl) ?_
      repeat (quiet_step (with_reducible exact CX.out _))
      refine wpQuiet_nil ?_
      intro W2 hw'
      obtain ⟨⟨W3, hW3⟩, hw''⟩ := hw'
      dsimp only at hw''
      subst hw''
      go_wp2_with fail
      go_ret
      exact ⟨rfl, hW3⟩
    · rw [decide_eq_false hc]
      have hc2 : ¬ (x.ms.length : Int) < 32 := by omega
      clear hc
      go_enter Tryz.func98, Tryz.ntmps98
      go_upto_region 1 with fail
      refine wp_region_step (by kernel_rfl) (by kernel_rfl) ?_
      repeat (quiet_step (with_reducible exact CX.out _))
      refine wpQuiet_nil ?_
      intro W2 hw'
      obtain ⟨⟨W3, hW3⟩, hw''⟩ := hw'
      dsimp only at hw''
      subst hw''
      go_wp2_with fail
      go_ret
      exact ⟨rfl, hW3⟩
  · go_enter Tryz.func98, Tryz.ntmps98
    go_upto_region 1 with fail
    refine wp_region_step (by kernel_rfl) (by kernel_rfl) ?_
    repeat (quiet_step (with_reducible exact CX.out _))
    refine wpQuiet_nil ?_
    intro W2 hw'
    obtain ⟨⟨W3, hW3⟩, hw''⟩ := hw'
    dsimp only at hw''
    subst hw''
    go_wp2_with fail
    go_ret
    exact ⟨rfl, hW3⟩
set_option maxHeartbeats 2000000 in
theorem can3_any {T : TypeId} {B off : Nat} {name : ByteArray} {x : LifeS} {vm vo : Value} {w : World} (h : LifeAt T B off name x vm vo w) (bx be : Nat) (k t a b : Int) (nm ot : ByteArray) (hb : CanB bx be B off k t a b nm ot w) (hl : x.ms.length ≤ 1000000) :
    Calls Tryz.prog 100 #[.pointer (some ⟨bx, 0, none⟩), .pointer (some ⟨be, 0, none⟩)] w fun e w' => e = .returned (.bool (hasT x.ms nm && !(eqT ot name))) ∧ Below w.heap.size w w' := by
  have CX := has_step h.ms hl nm
  unfold eqT
  have QL : ∀ s : WStep w, LifeAt T B off name x _ _ s.1 := fun s => h.step s.2
  have QB : ∀ s : WStep w, CanB bx be B off k t a b nm ot s.1 := fun s => hb.step s.2
  have c0 := fun s => (QL s).open1.1
  have c9 := fun s => (QL s).open1.2.2.2.1
  have c10 := fun s => (QL s).open1.2.2.2.2.1
  have p0 := fun s => (QB s).p
  have p4 := fun s => (QB s).e4
  have p5 := fun s => (QB s).e5
  clear QL QB
  clear hl h hb
  generalize hasT x.ms nm = r1 at *
  cases r1
  · go_enter Tryz.func100, Tryz.ntmps100
    go_upto_region 1 with fail
    refine wp_region_step (by kernel_rfl) (by kernel_rfl) ?_
    repeat (quiet_step (with_reducible exact CX.out _))
    refine wpQuiet_nil ?_
    intro W2 hw'
    obtain ⟨⟨W3, hW3⟩, hw''⟩ := hw'
    dsimp only at hw''
    subst hw''
    go_wp2_with fail
    go_ret
    exact ⟨rfl, hW3⟩
  · go_enter Tryz.func100, Tryz.ntmps100
    go_upto_region 1 with fail
    refine wp_region_step (by kernel_rfl) (by kernel_rfl) ?_
    repeat (quiet_step (with_reducible exact CX.out _))
    refine wpQuiet_nil ?_
    intro W2 hw'
    obtain ⟨⟨W3, hW3⟩, hw''⟩ := hw'
    dsimp only at hw''
    subst hw''
    go_wp2_with fail
    go_ret
    exact ⟨rfl, hW3⟩
set_option maxHeartbeats 2000000 in
theorem can4_any {T : TypeId} {B off : Nat} {name : ByteArray} {x : LifeS} {vm vo : Value} {w : World} (h : LifeAt T B off name x vm vo w) (bx be : Nat) (k t a b : Int) (nm ot : ByteArray) (hb : CanB bx be B off k t a b nm ot w) (hl : x.os.length ≤ 1000000) :
    Calls Tryz.prog 101 #[.pointer (some ⟨bx, 0, none⟩), .pointer (some ⟨be, 0, none⟩)] w fun e w' => e = .returned (.bool (!(hasT x.os nm))) ∧ Below w.heap.size w w' := by
  have CX := has_step h.os hl nm
  have QL : ∀ s : WStep w, LifeAt T B off name x _ _ s.1 := fun s => h.step s.2
  have QB : ∀ s : WStep w, CanB bx be B off k t a b nm ot s.1 := fun s => hb.step s.2
  have c0 := fun s => (QL s).open1.1
  have c9 := fun s => (QL s).open1.2.2.2.1
  have c10 := fun s => (QL s).open1.2.2.2.2.1
  have p0 := fun s => (QB s).p
  have p4 := fun s => (QB s).e4
  have p5 := fun s => (QB s).e5
  clear QL QB
  clear hl h hb
  generalize hasT x.os nm = r1 at *
  go_enter Tryz.func101, Tryz.ntmps101
  go_upto_region 1 with fail
  refine wp_region_step (by kernel_rfl) (by kernel_rfl) ?_
  repeat (quiet_step (with_reducible exact CX.out _))
  refine wpQuiet_nil ?_
  intro W2 hw'
  obtain ⟨⟨W3, hW3⟩, hw''⟩ := hw'
  dsimp only at hw''
  subst hw''
  go_wp2_with fail
  go_ret
  exact ⟨rfl, hW3⟩
set_option maxHeartbeats 2000000 in
theorem can5_any {T : TypeId} {B off : Nat} {name : ByteArray} {x : LifeS} {vm vo : Value} {w : World} (h : LifeAt T B off name x vm vo w) (bx be : Nat) (k t a b : Int) (nm ot : ByteArray) (hb : CanB bx be B off k t a b nm ot w) (hl : x.os.length ≤ 1000000) :
    Calls Tryz.prog 102 #[.pointer (some ⟨bx, 0, none⟩), .pointer (some ⟨be, 0, none⟩)] w fun e w' => e = .returned (.bool (hasT x.os nm)) ∧ Below w.heap.size w w' := by
  have CX := has_step h.os hl nm
  have QL : ∀ s : WStep w, LifeAt T B off name x _ _ s.1 := fun s => h.step s.2
  have QB : ∀ s : WStep w, CanB bx be B off k t a b nm ot s.1 := fun s => hb.step s.2
  have c0 := fun s => (QL s).open1.1
  have c9 := fun s => (QL s).open1.2.2.2.1
  have c10 := fun s => (QL s).open1.2.2.2.2.1
  have p0 := fun s => (QB s).p
  have p4 := fun s => (QB s).e4
  have p5 := fun s => (QB s).e5
  clear QL QB
  clear hl h hb
  generalize hasT x.os nm = r1 at *
  go_enter Tryz.func102, Tryz.ntmps102
  go_upto_region 1 with fail
  refine wp_region_step (by kernel_rfl) (by kernel_rfl) ?_
  repeat (quiet_step (with_reducible exact CX.out _))
  refine wpQuiet_nil ?_
  intro W2 hw'
  obtain ⟨⟨W3, hW3⟩, hw''⟩ := hw'
  dsimp only at hw''
  subst hw''
  go_wp2_with fail
  go_ret
  exact ⟨rfl, hW3⟩
set_option maxHeartbeats 2000000 in
theorem can6_any {T : TypeId} {B off : Nat} {name : ByteArray} {x : LifeS} {vm vo : Value} {w : World} (h : LifeAt T B off name x vm vo w) (bx be : Nat) (k t a b : Int) (nm ot : ByteArray) (hb : CanB bx be B off k t a b nm ot w) :
    Calls Tryz.prog 103 #[.pointer (some ⟨bx, 0, none⟩)] w fun e w' => e = .returned (.bool (decide (x.ms.length = 0))) ∧ Below w.heap.size w w' := by
  obtain ⟨am, cm, rfl, -⟩ := h.ms
  have c9 := h.open1.2.2.2.1
  have p0 := hb.p
  have cl := h.lt
  have hd : decide (x.ms.length = 0) = ((x.ms.length : Int) == 0) := by
    by_cases e : x.ms.length = 0
    · rw [decide_eq_true e, e]; rfl
    · rw [decide_eq_false e]; symm; simpa using e
  rw [hd]
  clear h hb hd
  go_enter Tryz.func103, Tryz.ntmps103
  go_wp2_with fail
  go_ret
  exact ⟨rfl, Below.refl _ _⟩
theorem can1_any (w : World) : Calls Tryz.prog 97 #[] w fun e w' => e = .returned (.bool false) ∧ Below w.heap.size w w' := by
  go_enter Tryz.func97, Tryz.ntmps97
  go_wp2_with fail
  go_ret
  exact ⟨rfl, Below.refl _ _⟩
end Go.Proofs.YtmpilgkfbibhlaaGreatDoor
namespace Go.Proofs.YtmpilgkfbibhlaaGreatDoor
open Go.RowKit Go.Instr Go.ChangeMaps
theorem checkKey_int {P : Program} {w : World} {k : TypeId} {q : IntKind} (hk : P.underlying k = some (.int q)) (em : Bool) (v : Value) : (checkKey em 10000 k v).run P w = .ok () w := by
 unfold checkKey
 simp [run_underlying hk]
theorem findKey_int {P : Program} {w : World} {k : TypeId} {q : IntKind} (hk : P.underlying k = some (.int q)) {v : Value} {es : List MapEntry} {r : Option (Nat × Value)} (h : findNow (.int q) v es 0 = some r) : (findKey k v es).run P w = .ok r w := by
 unfold findKey
 simp [run_underlying hk, h]
theorem run_insert {P : Program} {w : World} {t k e : TypeId} {q : IntKind} {b clock : Nat} {es : Array MapEntry} {key val : Value} (ht : P.underlying t = some (.map k e)) (hk : P.underlying k = some (.int q)) (hb : w.heap[b]? = some (.map es clock)) (h : findNow (.int q) key es.toList 0 = some none) :
  (mapUpdate t (.map (some b)) key val).run P w = .ok () (setBlock w b (.map (es.push { key, val, born := clock }) (clock + 1))) := by
 unfold mapUpdate
 simp [run_underlying ht, MapKept.run_getObj_map hb, checkKey_int hk, findKey_int hk h, Result.andThen, MapKept.run_setObj_map _ hb, setBlock]
theorem run_look {P : Program} {w : World} {t k e : TypeId} {q : IntKind} {b clock i : Nat} {es : Array MapEntry} {key val : Value} (ht : P.underlying t = some (.map k e)) (hk : P.underlying k = some (.int q)) (hb : w.heap[b]? = some (.map es clock)) (h : findNow (.int q) key es.toList 0 = some (some (i, val))) :
  (lookup t (.map (some b)) key true).run P w = .ok (.tuple #[val, .bool true]) w := by
 unfold lookup
 simp [run_underlying ht, MapKept.run_getObj_map hb, checkKey_int hk, findKey_int hk h, Result.andThen]
theorem run_look_no {P : Program} {w : World} {t k e : TypeId} {q : IntKind} {b clock : Nat} {es : Array MapEntry} {key z : Value} (ht : P.underlying t = some (.map k e)) (hk : P.underlying k = some (.int q)) (hb : w.heap[b]? = some (.map es clock)) (h : findNow (.int q) key es.toList 0 = some none) (hz : (zeroValue e).run P w = .ok z w) :
  (lookup t (.map (some b)) key true).run P w = .ok (.tuple #[z, .bool false]) w := by
 unfold lookup
 simp [run_underlying ht, MapKept.run_getObj_map hb, checkKey_int hk, findKey_int hk h, hz, Result.andThen]
theorem wpList_insert {P : Program} {w : World} {ops : Array Oper} {rest : List Oper} {o : Oper} {a : Act} {Q : Exit → Act → World → Prop}
  (hg : o.guard = none) (m x v : Operand) (t : TypeId) (hop : o.op = Op.insert t m x v) (k e : TypeId) (q : IntKind) (ht : P.underlying t = some (.map k e)) (hk : P.underlying k = some (.int q))
  (b clock : Nat) (es : Array MapEntry) (hb : w.heap[b]? = some (.map es clock)) (key val : Value) (hm : a.eval m = .map (some b)) (hx : a.eval x = key) (hv : a.eval v = val) (h : findNow (.int q) key es.toList 0 = some none)
  (hK : ∀ w', w'.heap[b]? = some (.map (es.push { key, val, born := clock }) (clock + 1)) → w.grownBy w' (some b) → wpList P ops Q rest (a.put o.dst undef) w') :
  wpList P ops Q (o :: rest) a w := by
 refine wpList_plain hg fun K' hK' => ?_
 have hrun := run_insert (val := val) ht hk hb h
 unfold Oper.wp
 simp [execOp, hop, hm, hx, hv, hrun, Result.andThen]
 exact hK' _ _ (hK _ (heap_setBlock_same hb _) ⟨rfl, rfl, rfl, by simp [setBlock], fun i _ hi => heap_setBlock_other hb _ (fun e => hi (by rw [e]))⟩)
theorem wpList_insert2 {P : Program} {w : World} {ops : Array Oper} {rest : List Oper} {a : Act} {Q : Exit → Act → World → Prop} {m x v : Operand} {t ty k e : TypeId} {ps : String} {af : Array Edge} {q : IntKind} {b clock : Nat} {es : Array MapEntry} {key val : Value}
  (hb : w.heap[b]? = some (.map es clock)) (ht : P.underlying t = some (.map k e)) (hk : P.underlying k = some (.int q)) (hm : a.eval m = .map (some b)) (hx : a.eval x = key) (hv : a.eval v = val) (h : findNow (.int q) key es.toList 0 = some none)
  (hK : ∀ w', w'.heap[b]? = some (.map (es.push { key, val, born := clock }) (clock + 1)) → w.grownBy w' (some b) → wpList P ops Q rest (a.put none undef) w') :
  wpList P ops Q ({ dst := none, op := .insert t m x v, type := ty, pos := ps, after := af, guard := none } :: rest) a w :=
 wpList_insert rfl m x v t rfl k e q ht hk b clock es hb key val hm hx hv h hK
end Go.Proofs.YtmpilgkfbibhlaaGreatDoor
namespace Go.Proofs.YtmpilgkfbibhlaaGreatDoor
open Go.RowKit Mr
theorem can_boxes {B off q : Nat} {k t a b : Int} {nm ot : ByteArray} {w : World} :
  CanB w.heap.size (w.heap.size + 1) B off k t a b nm ot (((w.alloc (.cells #[.pointer (some ⟨B, off, none⟩)] 91)).alloc (.cells #[.int .i64 k, .int .i64 t, .int .i64 a, .int .i64 b, .string nm, .string ot] 29)).drewN q) ∧
  Below w.heap.size w (((w.alloc (.cells #[.pointer (some ⟨B, off, none⟩)] 91)).alloc (.cells #[.int .i64 k, .int .i64 t, .int .i64 a, .int .i64 b, .string nm, .string ot] 29)).drewN q) := by
 refine ⟨⟨?_, ?_, ?_, ?_, ?_, ?_⟩, ?_⟩
 ·go_simp
 ·go_simp
 ·go_simp
 ·go_simp
 ·show w.heap.size < ((w.alloc _).alloc _).heap.size; simp; omega
 ·show w.heap.size + 1 < ((w.alloc _).alloc _).heap.size; simp
 ·exact bDrewN (bAlloc (bAlloc (Below.refl _ _) _) _)
def ruleEs (bx be : Nat) : Array MapEntry := #[
 {key := .int .i64 1, val := .func (.func 97) #[] #[], born := 0 },
 {key := .int .i64 5, val := .func (.func 98) #[] #[.pointer (some ⟨bx, 0, none⟩), .pointer (some ⟨be, 0, none⟩)], born := 1 },
 {key := .int .i64 6, val := .func (.func 100) #[] #[.pointer (some ⟨bx, 0, none⟩), .pointer (some ⟨be, 0, none⟩)], born := 2 },
 {key := .int .i64 7, val := .func (.func 101) #[] #[.pointer (some ⟨bx, 0, none⟩), .pointer (some ⟨be, 0, none⟩)], born := 3 },
 {key := .int .i64 8, val := .func (.func 102) #[] #[.pointer (some ⟨bx, 0, none⟩), .pointer (some ⟨be, 0, none⟩)], born := 4 },
 {key := .int .i64 9, val := .func (.func 103) #[] #[.pointer (some ⟨bx, 0, none⟩)], born := 5 }]
set_option maxHeartbeats 4000000 in
set_option maxRecDepth 20000 in
theorem can_rule {T : TypeId} {B off : Nat} {name : ByteArray} {x : LifeS} {vm vo : Value} {w : World} (h : LifeAt T B off name x vm vo w) (hn : ¬ x.n = 0) (k t a b : Int) (nm ot : ByteArray) (hk : 1 ≤ k ∧ k ≤ 9) (ht : ¬ t < x.at_) (hs : x.scr = false) (hl1 : x.ms.length ≤ 1000000) (hl2 : x.os.length ≤ 1000000) :
  Calls Tryz.prog 43 #[.pointer (some ⟨B, off, none⟩), .agg #[.int .i64 k, .int .i64 t, .int .i64 a, .int .i64 b, .string nm, .string ot]] w fun e w' => e = .returned (.bool (ruleB name x.ms x.os (k, t, a, b, nm, ot))) ∧ Below w.heap.size w w' := by
 obtain ⟨c0, c1, c2, c9, c10, c17, cl⟩ := h.open1
 have hn2 : ((x.n : Int) == 0) = false := by simpa using hn
 rw [hs] at c17
 have ht2 : decide (t < x.at_) = false := decide_eq_false ht
 have H := Lib.hid h
 have HL := Lib.hid (And.intro hl1 hl2)
 have HK := Lib.hid hk
 clear h hn hs ht hl1 hl2 hk
 go_enter Tryz.func43, Tryz.ntmps43
 go_upto_region 3 with fail
 go_quiet (fail)
 go_upto_region 5 with fail
 have HB := Lib.hid (can_boxes (B := B) (off := off) (q := nq) (k := k) (t := t) (a := a) (b := b) (nm := nm) (ot := ot) (w := w))
 replace H := Lib.hid (H.out.step HB.out.2)
 clear c0 c1 c2 c9 c10 c17 cl hn2 ht2
 generalize (((w.alloc _).alloc _).drewN nq) = W1 at *
 generalize w.heap.size + 1 = be at *
 generalize hbx : w.heap.size = bx at *
 have HX := Lib.hid hbx
 clear hbx
 have HM := Lib.hid (blk_new W1 (.map #[] 0))
 have HW := Lib.hid (bAl (W := W1) (o := .map #[] 0))
 have hmm := @run_makeMap Tryz.prog
 go_upto_region 6 with ((with_reducible apply wpList_insert2); (case hb => exact HM.out); (case ht => exact Tryz.underlying164); (case hk => exact Tryz.underlying3); (case hm => rfl); (case hx => rfl); (case hv => rfl); (case h => rfl); intro w9 hm9 hg9; replace HW := Lib.hid (HW.out.grown hg9 HW.out.size (by intro k e; cases e; exact Nat.le_refl _)); replace HM := Lib.hid hm9; clear hm9 hg9)
 have HM2 : Hid (w9.heap[W1.heap.size]? = some (.map (ruleEs bx be) 6)) := HM.out
 clear HM hmm
 have HC := Lib.hid (HB.out.1.step HW.out)
 replace H := Lib.hid (H.out.step HW.out)
 have HD : Hid (Below w.heap.size w w9) := bStep (by rw [HX.out]; exact HB.out.2) HW.out
 clear HB HX HW
 have e0 := HC.out.e0
 have l2 := HC.out.l2
 have hk := HK.out
 have hc : k = 1 ∨ k = 2 ∨ k = 3 ∨ k = 4 ∨ k = 5 ∨ k = 6 ∨ k = 7 ∨ k = 8 ∨ k = 9 := by omega
 clear hk HK
 rcases hc with rfl | rfl | rfl | rfl | rfl | rfl | rfl | rfl | rfl
 ·have hl := run_look (key := .int .i64 1) (i := 0) (val := .func (.func 97) #[] #[]) Tryz.underlying164 Tryz.underlying3 HM2.out (by rfl)
  have CC := Lib.hid (can1_any w9)
  clear HM2
  go_wp2_with (go_at_call 97; refine CC.out.mono ?_; rintro e w10 ⟨rfl, hb10⟩)
  exact bodyPost_ret (v := .bool false) (by simp only [results, Tryz.results43]; go_simp) rfl ⟨by simp [ruleB], bStep HD.out hb10⟩
 ·have hl := run_look_no (key := .int .i64 2) Tryz.underlying164 Tryz.underlying3 HM2.out (by rfl) (Tryz.zeroValue26 w9)
  clear HM2
  go_wp2_with fail
  exact bodyPost_ret (v := .bool true) (by simp only [results, Tryz.results43]; go_simp) rfl ⟨by simp [ruleB], HD.out⟩
 ·have hl := run_look_no (key := .int .i64 3) Tryz.underlying164 Tryz.underlying3 HM2.out (by rfl) (Tryz.zeroValue26 w9)
  clear HM2
  go_wp2_with fail
  exact bodyPost_ret (v := .bool true) (by simp only [results, Tryz.results43]; go_simp) rfl ⟨by simp [ruleB], HD.out⟩
 ·have hl := run_look_no (key := .int .i64 4) Tryz.underlying164 Tryz.underlying3 HM2.out (by rfl) (Tryz.zeroValue26 w9)
  clear HM2
  go_wp2_with fail
  exact bodyPost_ret (v := .bool true) (by simp only [results, Tryz.results43]; go_simp) rfl ⟨by simp [ruleB], HD.out⟩
 ·have hl := run_look (key := .int .i64 5) (i := 1) (val := .func (.func 98) #[] #[.pointer (some ⟨bx, 0, none⟩), .pointer (some ⟨be, 0, none⟩)]) Tryz.underlying164 Tryz.underlying3 HM2.out (by rfl)
  have CC := Lib.hid (can2_any H.out bx be 5 t a b nm ot HC.out HL.out.1)
  clear HM2
  go_wp2_with (go_at_call 98; refine CC.out.mono ?_; rintro e w10 ⟨rfl, hb10⟩)
  exact bodyPost_ret (v := .bool (!(hasT x.ms nm) && decide (x.ms.length < 32) && !(eqT ot name))) (by simp only [results, Tryz.results43]; go_simp) rfl ⟨by simp [ruleB], bStep HD.out hb10⟩
 ·have hl := run_look (key := .int .i64 6) (i := 2) (val := .func (.func 100) #[] #[.pointer (some ⟨bx, 0, none⟩), .pointer (some ⟨be, 0, none⟩)]) Tryz.underlying164 Tryz.underlying3 HM2.out (by rfl)
  have CC := Lib.hid (can3_any H.out bx be 6 t a b nm ot HC.out HL.out.1)
  clear HM2
  go_wp2_with (go_at_call 100; refine CC.out.mono ?_; rintro e w10 ⟨rfl, hb10⟩)
  exact bodyPost_ret (v := .bool (hasT x.ms nm && !(eqT ot name))) (by simp only [results, Tryz.results43]; go_simp) rfl ⟨by simp [ruleB], bStep HD.out hb10⟩
 ·have hl := run_look (key := .int .i64 7) (i := 3) (val := .func (.func 101) #[] #[.pointer (some ⟨bx, 0, none⟩), .pointer (some ⟨be, 0, none⟩)]) Tryz.underlying164 Tryz.underlying3 HM2.out (by rfl)
  have CC := Lib.hid (can4_any H.out bx be 7 t a b nm ot HC.out HL.out.2)
  clear HM2
  go_wp2_with (go_at_call 101; refine CC.out.mono ?_; rintro e w10 ⟨rfl, hb10⟩)
  exact bodyPost_ret (v := .bool (!(hasT x.os nm))) (by simp only [results, Tryz.results43]; go_simp) rfl ⟨by simp [ruleB], bStep HD.out hb10⟩
 ·have hl := run_look (key := .int .i64 8) (i := 4) (val := .func (.func 102) #[] #[.pointer (some ⟨bx, 0, none⟩), .pointer (some ⟨be, 0, none⟩)]) Tryz.underlying164 Tryz.underlying3 HM2.out (by rfl)
  have CC := Lib.hid (can5_any H.out bx be 8 t a b nm ot HC.out HL.out.2)
  clear HM2
  go_wp2_with (go_at_call 102; refine CC.out.mono ?_; rintro e w10 ⟨rfl, hb10⟩)
  exact bodyPost_ret (v := .bool (hasT x.os nm)) (by simp only [results, Tryz.results43]; go_simp) rfl ⟨by simp [ruleB], bStep HD.out hb10⟩
 ·have hl := run_look (key := .int .i64 9) (i := 5) (val := .func (.func 103) #[] #[.pointer (some ⟨bx, 0, none⟩)]) Tryz.underlying164 Tryz.underlying3 HM2.out (by rfl)
  have CC := Lib.hid (can6_any H.out bx be 9 t a b nm ot HC.out )
  clear HM2
  go_wp2_with (go_at_call 103; refine CC.out.mono ?_; rintro e w10 ⟨rfl, hb10⟩)
  exact bodyPost_ret (v := .bool (decide (x.ms = []))) (by simp only [results, Tryz.results43]; go_simp) rfl ⟨by simp [ruleB], bStep HD.out hb10⟩
theorem can_any {T : TypeId} {B off : Nat} {name : ByteArray} {x : LifeS} {vm vo : Value} {w : World} (h : LifeAt T B off name x vm vo w) (e : Evt) (hk : 1 ≤ e.1 ∧ e.1 ≤ 9) (hl1 : x.ms.length ≤ 1000000) (hl2 : x.os.length ≤ 1000000) :
  Calls Tryz.prog 43 #[.pointer (some ⟨B, off, none⟩), evX e] w fun en w' => en = .returned (.bool (canP name x e)) ∧ Below w.heap.size w w' := by
 obtain ⟨k, t, a, b, nm, ot⟩ := e
 unfold canP
 by_cases hn : x.n = 0
 ·rw [if_pos hn]; exact can_first h hn k t a b nm ot
 ·rw [if_neg hn]
  by_cases ht : t < x.at_
  ·rw [if_pos ht]; exact can_late h hn k t a b nm ot (Or.inl ht)
  ·rw [if_neg ht]
   by_cases hs : x.scr = true
   ·rw [if_pos hs]; exact can_late h hn k t a b nm ot (Or.inr ⟨ht, hs⟩)
   ·rw [if_neg hs]; exact can_rule h hn k t a b nm ot hk ht (by simpa using hs) hl1 hl2
end Go.Proofs.YtmpilgkfbibhlaaGreatDoor
namespace Go.Proofs.YtmpilgkfbibhlaaGreatDoor
open Go.RowKit Mr
structure OnlyB (T : TypeId) (B off n : Nat) (w W : World) : Prop where
 os : W.os = w.os
 tape : W.tape = w.tape
 output : W.output = w.output
 size : w.heap.size ≤ W.heap.size
 lt : B < w.heap.size
 block : ∀ k, k < w.heap.size → k ≠ B → W.heap[k]? = w.heap[k]?
 cells : ∃ cs cs' : Array Value, w.heap[B]? = some (.cells cs T (0, 0)) ∧ W.heap[B]? = some (.cells cs' T (0, 0)) ∧ cs'.size = cs.size ∧ ∀ i, (i < off ∨ off + n ≤ i) → cs'[i]? = cs[i]?
section
variable {T : TypeId} {B off n : Nat} {w W w2 : World}
theorem OnlyB.start {cs : Array Value} (h : w.heap[B]? = some (.cells cs T (0, 0))) : OnlyB T B off n w w :=
 ⟨rfl, rfl, rfl, Nat.le_refl _, blk_lt h, fun _ _ _ => rfl, cs, cs, h, h, rfl, fun _ _ => rfl⟩
theorem OnlyB.step (h : OnlyB T B off n w W) (hb : Below W.heap.size W w2) : OnlyB T B off n w w2 := by
 obtain ⟨cs, cs', h1, h2, h3, h4⟩ := h.cells
 exact ⟨hb.os.trans h.os, hb.tape.trans h.tape, hb.output.trans h.output, Nat.le_trans h.size hb.size, h.lt, fun k hk hn => (hb.block k (Nat.lt_of_lt_of_le hk h.size)).trans (h.block k hk hn), cs, cs', h1, blk_step h2 hb, h3, h4⟩
theorem OnlyB.set (h : OnlyB T B off n w W) {j : Nat} (hj : j < n) (u : Value) : OnlyB T B off n w (W.setCell ⟨B, off + j, none⟩ u) := by
 obtain ⟨cs, cs', h1, h2, h3, h4⟩ := h.cells
 refine ⟨h.os, h.tape, h.output, by simpa using h.size, h.lt, fun k hk hn => ?_, cs, cs'.setIfInBounds (off + j) u, h1, blk_set h2, by simpa using h3, fun i hi => ?_⟩
 ·rw [Below.heap_setCell _ _ _ _ hn]; exact h.block k hk hn
 ·rw [Array.getElem?_setIfInBounds, if_neg (by omega)]; exact h4 i hi
theorem OnlyB.grown {g : Option Nat} (h : OnlyB T B off n w W) (hg : W.grownBy w2 g) (hr : ∀ k, g = some k → w.heap.size ≤ k) : OnlyB T B off n w w2 := by
 obtain ⟨cs, cs', h1, h2, h3, h4⟩ := h.cells
 have hk : ∀ k, k < w.heap.size → some k ≠ g := fun k hk e => by have := hr k e.symm; omega
 exact ⟨hg.os.trans h.os, hg.tape.trans h.tape, hg.output.trans h.output, Nat.le_trans h.size hg.size, h.lt, fun k hk1 hn => (hg.block k (Nat.lt_of_lt_of_le hk1 h.size) (hk k hk1)).trans (h.block k hk1 hn), cs, cs', h1, (hg.block B (blk_lt h2) (hk B h.lt)).trans h2, h3, h4⟩
theorem SRow.only {v : Value} {l : List ByteArray} (h : SRow v l w) (ho : OnlyB T B off n w W) (hT : T ≠ 9) : SRow v l W := h.keep fun b cs fr e => ho.block b (blk_lt e) (fun c => by
 subst c
 obtain ⟨cs1, cs2, h1, -⟩ := ho.cells
 rw [h1] at e
 simp at e
 exact hT e.2.1)
end
def NewV (w : World) (v v' : Value) : Prop := v' = v ∨ ∀ k, v'.ownBlock = some k → w.heap.size ≤ k
theorem NewV.mono {w W : World} {v v' : Value} (h : NewV W v v') (hs : w.heap.size ≤ W.heap.size) : NewV w v v' := h.imp id fun h k hk => Nat.le_trans hs (h k hk)
theorem NewV.of_own {w W : World} {E sz n : Nat} {v v' : Value} {xs : List Value} (h : W.ownsRow w.heap.size E sz v' n xs) : NewV w v v' := Or.inr fun k hk => (World.ownsRow.lt h k hk).1
structure LifeF (w : World) (T : TypeId) (B off : Nat) (name : ByteArray) (x : LifeS) (vm vo vm' vo' : Value) (W : World) : Prop where
 l : LifeAt T B off name x vm' vo' W
 m : NewV w vm vm'
 o : NewV w vo vo'
structure AddC (T : TypeId) (B off : Nat) (name : ByteArray) (w : World) (be : Nat) (e : Evt) (x : LifeS) (vm vo : Value) (W : World) : Prop where
 blk : ∃ cs : Array Value, W.heap[B]? = some (.cells cs T (0, 0)) ∧ off + 18 ≤ cs.size ∧ ∀ (j : Nat) (u : Value), (lifeCs name x vm vo)[j]? = some u → cs[off + j]? = some u
 only : OnlyB T B off 18 w W
 box : W.heap[be]? = some (.cells #[.int .i64 e.1, .int .i64 e.2.1, .int .i64 e.2.2.1, .int .i64 e.2.2.2.1, .string e.2.2.2.2.1, .string e.2.2.2.2.2] 29 (0, 0))
 hbe : w.heap.size ≤ be
section
variable {T : TypeId} {B off be : Nat} {name : ByteArray} {w W w2 : World} {e : Evt} {x x' : LifeS} {vm vo vm' vo' : Value}
theorem AddC.ne (h : AddC T B off name w be e x vm vo W) : be ≠ B := by have := h.only.lt; have := h.hbe; omega
theorem AddC.step (h : AddC T B off name w be e x vm vo W) (hb : Below W.heap.size W w2) : AddC T B off name w be e x vm vo w2 := by
 obtain ⟨⟨cs, h1, h2, h3⟩, h4, h5, h6⟩ := h
 exact ⟨⟨cs, blk_step h1 hb, h2, h3⟩, h4.step hb, blk_step h5 hb, h6⟩
theorem AddC.set (h : AddC T B off name w be e x vm vo W) {j : Nat} (u : Value) (hj : j < 18) (hcs : lifeCs name x' vm' vo' = (lifeCs name x vm vo).set j u) : AddC T B off name w be e x' vm' vo' (W.setCell ⟨B, off + j, none⟩ u) := by
 have hne := h.ne
 obtain ⟨⟨cs, h1, h2, h3⟩, h4, h5, h6⟩ := h
 refine ⟨⟨cs.setIfInBounds (off + j) u, blk_set h1, by simpa using h2, fun i v hi => ?_⟩, h4.set hj u, blk_set_other h5 hne, h6⟩
 rw [hcs, List.getElem?_set] at hi
 rw [Array.getElem?_setIfInBounds]
 by_cases c : j = i
 ·subst c
  rw [if_pos rfl] at hi
  split at hi
  ·rw [if_pos rfl, if_pos (by omega)]; exact hi
  ·cases hi
 ·rw [if_neg c] at hi
  rw [if_neg (by omega)]
  exact h3 i v hi
theorem AddC.grown {g : Option Nat} (h : AddC T B off name w be e x vm vo W) (hg : W.grownBy w2 g) (hr : ∀ k, g = some k → w.heap.size ≤ k ∧ k ≠ be) : AddC T B off name w be e x vm vo w2 := by
 have hl := h.only.lt
 obtain ⟨⟨cs, h1, h2, h3⟩, h4, h5, h6⟩ := h
 refine ⟨⟨cs, (hg.block B (blk_lt h1) fun c => ?_).trans h1, h2, h3⟩, h4.grown hg fun k hk => (hr k hk).1, (hg.block be (blk_lt h5) fun c => ?_).trans h5, h6⟩
 ·have := (hr B c.symm).1; omega
 ·exact (hr be c.symm).2 rfl
theorem AddC.cell (h : AddC T B off name w be e x vm vo W) {j : Nat} {u : Value} (hj : (lifeCs name x vm vo)[j]? = some u) : W.cell? ⟨B, off + j, none⟩ = some u := by
 obtain ⟨⟨cs, h1, h2, h3⟩, h4, h5, h6⟩ := h
 exact blk_cell h1 (h3 j u hj)
theorem AddC.free (h : AddC T B off name w be e x vm vo W) (j : Nat) : W.frozen? ⟨B, off + j, none⟩ = false := by
 obtain ⟨⟨cs, h1, h2, h3⟩, h4, h5, h6⟩ := h
 exact blk_free h1
theorem AddC.lt (h : AddC T B off name w be e x vm vo W) : B < W.heap.size := by
 obtain ⟨⟨cs, h1, h2, h3⟩, h4, h5, h6⟩ := h
 exact blk_lt h1
theorem AddC.ev (h : AddC T B off name w be e x vm vo W) : W.cell? ⟨be, 0, none⟩ = some (.int .i64 e.1) ∧ W.cell? ⟨be, 1, none⟩ = some (.int .i64 e.2.1) ∧ W.cell? ⟨be, 2, none⟩ = some (.int .i64 e.2.2.1) ∧ W.cell? ⟨be, 3, none⟩ = some (.int .i64 e.2.2.2.1) ∧ W.cell? ⟨be, 4, none⟩ = some (.string e.2.2.2.2.1) ∧ W.cell? ⟨be, 5, none⟩ = some (.string e.2.2.2.2.2) ∧ be < W.heap.size :=
 ⟨blk_cell h.box rfl, blk_cell h.box rfl, blk_cell h.box rfl, blk_cell h.box rfl, blk_cell h.box rfl, blk_cell h.box rfl, blk_lt h.box⟩
theorem AddC.done (h : AddC T B off name w be e x vm vo W) (hm : SRow vm x.ms W) (ho : SRow vo x.os W) : LifeAt T B off name x vm vo W := by
 obtain ⟨⟨cs, h1, h2, h3⟩, h4, h5, h6⟩ := h
 exact ⟨⟨cs, h1, h3⟩, hm, ho⟩
end
end Go.Proofs.YtmpilgkfbibhlaaGreatDoor
