/-
 Verify of package passport: its loop.
-/
import Derived.Test.YtmpilgkfbibhlaaGreatDoorG21R
import Derived.Test.YtmpilgkfbibhlaaGreatDoorG15R
import Derived.Test.YtmpilgkfbibhlaaGreatDoorG26R
import Derived.Test.YtmpilgkfbibhlaaGreatDoorG0R
set_option linter.unusedSimpArgs false
set_option linter.unusedVariables false
namespace Go.Proofs.YtmpilgkfbibhlaaGreatDoor
open Sx Go.RowKit Mr
theorem byt_of_name (name : ByteArray) : Byt (name.data.toList.map UInt8.toNat) := fun k => by
 rw [List.getD_eq_getElem?_getD, List.getElem?_map]
 cases h : name.data.toList[k]? with
 | none => decide
 | some b => exact b.toNat_lt
theorem name_len (name : ByteArray) : (name.data.toList.map UInt8.toNat).length = name.size := by rw [List.length_map, Array.length_toList]; rfl
theorem name_bytV (name : ByteArray) (cap : Nat) (W : World) {fr : Nat × Nat} : BytV (some ⟨W.heap.size, 0, none⟩) (name.data.toList.map UInt8.toNat) (W.alloc (.cells (bytesRow name cap) 5 fr)) := fun _ => by
 refine ⟨W.heap.size, 0, rfl, by simp, fun k hk => ?_⟩
 have hk2 : k < name.data.size := by rw [name_len] at hk; exact hk
 rw [Nat.zero_add, World.cell?_alloc_mark, bytesRow_at _ _ _ hk2, List.getD_eq_getElem?_getD, List.getElem?_map, List.getElem?_eq_getElem (by simpa using hk2)]
 simp
theorem al_byt {W : World} {a : Option Addr} {m : List Nat} (h : BytV a m W) : BytV a m W.drew := h.step (Below.refl _ _).drew
end Go.Proofs.YtmpilgkfbibhlaaGreatDoor
namespace Go.Proofs.YtmpilgkfbibhlaaGreatDoor
open Sx Go.RowKit Mr
def nilV : Value := .slice none 0 0
def newK (nm : ByteArray) (hd : Nat) : PkV := ⟨nm, life0, hd, [], nilV, nilV, nilV⟩
theorem regC_vp {g : RegS} {vb vp v' : Value} (h8 : g.used.length = 8) (qs : List PkV) : (regC g vb vp).toArray.setIfInBounds 10 v' = (regC { g with qs := qs } vb v').toArray := by
  rw [List.setIfInBounds_toArray]
  congr 1
  unfold regC
  dsimp only
  rw [List.set_append_right (h := by simp [h8])]
  congr 1
  simp [h8]
section
variable {B R : Nat} {g : RegS} {vb vp v' : Value} {W W5 w : World} {nm : ByteArray} {hd : Nat}
theorem RegAt.addPk (h : RegAt B R g vb vp W) (hg : W.grownBy W5 vp.ownBlock) (ho : W5.ownsRow B 116 20 v' (g.qs.length + 1) (flatK g.qs ++ pkC (newK nm hd))) :
    RegAt B R { g with qs := g.qs ++ [newK nm hd] } vb v' (W5.setCell ⟨R, 10, none⟩ v') := by
  obtain ⟨h1, h2, ⟨ab, cb, h3, h4⟩, h5, h6, h7, h8, h9⟩ := h
  have hR5 := blk_kept h1 hg h5 (by decide)
  have hK : KeepT W (W5.setCell ⟨R, 10, none⟩ v') := fun b cs T fr e n1 n2 n3 => keepT_set hR5 (Or.inl rfl) b cs T fr (blk_kept e hg h5 n2) n1 n2 n3
  have hnil : ∀ W : World, SRow nilV [] W := SRow.nil
  refine ⟨?_, h2, ⟨ab, cb, h3, hK.books h4⟩, ?_, fun q hq => ?_, fun q hq => ?_, fun i j p q hij hp hq => ?_, h9⟩
  · rw [← regC_vp h2]
    exact blk_set hR5
  · show (W5.setCell ⟨R, 10, none⟩ v').ownsRow B 116 20 v' (g.qs ++ [newK nm hd]).length (flatK (g.qs ++ [newK nm hd]))
    rw [List.length_append, flatK_snoc]
    exact own_setT ho hR5 (by decide)
  · rcases List.mem_append.1 hq with hq | hq
    · have := h6 q hq
      exact ⟨hK.srow this.1, hK.srow this.2.1, this.2.2⟩
    · obtain rfl := List.mem_singleton.1 hq
      exact ⟨hnil _, hnil _, fun _ => ⟨rfl, rfl⟩⟩
  · rcases List.mem_append.1 hq with hq | hq
    · exact own_setT (own_kept (h7 q hq) hg h5 (by decide)) hR5 (by decide)
    · obtain rfl := List.mem_singleton.1 hq
      exact ⟨rfl, Or.inl ⟨rfl, rfl⟩⟩
  · have key : ∀ (i : Nat) (p : PkV), (g.qs ++ [newK nm hd])[i]? = some p → g.qs[i]? = some p ∨ p = newK nm hd := fun i p hp => by
      rcases Nat.lt_or_ge i g.qs.length with c | c
      · rw [List.getElem?_append_left c] at hp; exact Or.inl hp
      · rw [List.getElem?_append_right c] at hp
        exact Or.inr (by have := List.mem_of_getElem? hp; exact List.mem_singleton.1 this)
    rcases key i p hp with e1 | rfl
    · rcases key j q hq with e2 | rfl
      · exact h8 i j p q hij e1 e2
      · exact fun k _ e => by cases e
    · exact fun k e _ => by cases e
end
structure PkS (P0 P2 : World → Prop) (Bs : Nat) (cs : List Value) (nm : ByteArray) (pt hd : Nat) (vp : Value) (n : Nat) (xs : List Value) (b0 b1 b2 b3 b4 b5 b6 b7 : Bool) (v0 v1 v2 v3 v4 v5 v6 : Value) (W : World) : Prop where
  a : b6 = false → P0 W
  m : b6 = true → b7 = false → ∃ Wb, P0 Wb ∧ Wb.grownBy W vp.ownBlock ∧ (v6.ownBlock = vp.ownBlock ∨ v6.ownBlock = some Wb.heap.size) ∧ W.ownsRow Bs 116 20 v6 (n + 1) (xs ++ cs)
  z : b7 = true → P2 W
  r0 : b0 = true → v0 = vp
  r1 : b1 = true → b4 = false → ∃ B o, v1 = .pointer (some ⟨B, o, none⟩) ∧ B < W.heap.size ∧ W.cell? ⟨B, o, none⟩ = some (.int .u64 2147483647) ∧ W.cell? ⟨B, o + 1, none⟩ = some (.int .i64 3)
  r2 : b2 = true → v2 = .int .u64 (pt : Int)
  r3 : b3 = true → b4 = false → ∃ p c, v3 = .slice p nm.size c ∧ BytV p (nm.data.toList.map UInt8.toNat) W
  r4 : b4 = true → v4 = .int .u64 (hd : Int)
  r5 : b5 = true → b6 = false → ∃ g, v5 = .slice (some ⟨g, 0, none⟩) 1 1 ∧ W.heap[g]? = some (.cells cs.toArray 116 (0, 0))
  n0 : b0 = false → b6 = false
  n1 : b1 = false → b4 = false
  n2 : b2 = false → b4 = false
  n3 : b3 = false → b4 = false
  n4 : b4 = false → b5 = false
  n5 : b5 = false → b6 = false
  n6 : b6 = false → b7 = false
  hb : Bs ≤ W.heap.size
theorem infoPk : (Tryz.prog.info? 116).map (fun i => (i.zero, i.size, i.bytes)) = some (some (.agg #[.string ⟨#[]⟩, .int .i64 0, .int .i64 0, .int .i64 0, .int .i64 0, .int .i64 0, .int .i64 0, .string ⟨#[]⟩, .string ⟨#[]⟩, .slice none 0 0, .slice none 0 0, .int .i64 0, .int .i64 0, .bool false, .int .i64 0, .int .i64 0, .int .i64 0, .bool false, .int .u64 0, .slice none 0 0]), 20, 232) := by kernel_rfl
theorem pkC_one (nm : ByteArray) (hd : Nat) : ∀ u ∈ pkC (newK nm hd), u.oneCell' = true := by
  intro u hu
  simp only [pkC, newK, nilV, lifeCs, life0, evt0, List.cons_append, List.nil_append, List.mem_cons, List.not_mem_nil, or_false] at hu
  rcases hu with rfl | rfl | rfl | rfl | rfl | rfl | rfl | rfl | rfl | rfl | rfl | rfl | rfl | rfl | rfl | rfl | rfl | rfl | rfl | rfl <;> rfl
section
variable {P0 P2 : World → Prop} {Bs n hd pt : Nat} {cs xs : List Value} {nm : ByteArray} {vp : Value} {b0 b1 b2 b3 b4 b5 b6 b7 : Bool} {v0 v1 v2 v3 v4 v5 v6 : Value} {W w2 : World}
theorem PkS.step (hP : ∀ W w2, P0 W → Below W.heap.size W w2 → P0 w2) (h : PkS P0 P2 Bs cs nm pt hd vp n xs b0 b1 b2 b3 b4 b5 false false v0 v1 v2 v3 v4 v5 v6 W) (hb : Below W.heap.size W w2) : PkS P0 P2 Bs cs nm pt hd vp n xs b0 b1 b2 b3 b4 b5 false false v0 v1 v2 v3 v4 v5 v6 w2 :=
  ⟨fun e => hP _ _ (h.a e) hb, (fun e => by cases e), (fun e => by cases e), h.r0, fun e1 e2 => by obtain ⟨B, o, q1, q2, q3, q4⟩ := h.r1 e1 e2; exact ⟨B, o, q1, Nat.lt_of_lt_of_le q2 hb.size, cell_step q3 hb, cell_step q4 hb⟩, h.r2,
   fun e1 e2 => by obtain ⟨p, c, q1, q2⟩ := h.r3 e1 e2; exact ⟨p, c, q1, q2.step hb⟩, h.r4, fun e1 e2 => by obtain ⟨g, q1, q2⟩ := h.r5 e1 e2; exact ⟨g, q1, blk_step q2 hb⟩, h.n0, h.n1, h.n2, h.n3, h.n4, h.n5, h.n6, Nat.le_trans h.hb hb.size⟩
theorem PkS.mk0 (h : PkS P0 P2 Bs cs nm pt hd vp n xs false b1 b2 b3 b4 b5 false false v0 v1 v2 v3 v4 v5 v6 W) : PkS P0 P2 Bs cs nm pt hd vp n xs true b1 b2 b3 b4 b5 false false vp v1 v2 v3 v4 v5 v6 W :=
  ⟨h.a, h.m, h.z, (fun _ => rfl), h.r1, h.r2, h.r3, h.r4, h.r5, (fun e => by cases e), h.n1, h.n2, h.n3, h.n4, h.n5, h.n6, h.hb⟩
theorem PkS.mk1 (hP : ∀ W w2, P0 W → Below W.heap.size W w2 → P0 w2) (h : PkS P0 P2 Bs cs nm pt hd vp n xs b0 false b2 b3 false false false false v0 v1 v2 v3 v4 v5 v6 W) (hb : Below W.heap.size W w2) {B o : Nat} (q2 : B < w2.heap.size) (q3 : w2.cell? ⟨B, o, none⟩ = some (.int .u64 2147483647)) (q4 : w2.cell? ⟨B, o + 1, none⟩ = some (.int .i64 3)) :
    PkS P0 P2 Bs cs nm pt hd vp n xs b0 true b2 b3 false false false false v0 (.pointer (some ⟨B, o, none⟩)) v2 v3 v4 v5 v6 w2 := by
  have h := h.step hP hb
  exact ⟨h.a, h.m, h.z, h.r0, (fun _ _ => ⟨B, o, rfl, q2, q3, q4⟩), h.r2, h.r3, h.r4, h.r5, h.n0, (fun e => by cases e), h.n2, h.n3, h.n4, h.n5, h.n6, h.hb⟩
theorem PkS.mk2 (h : PkS P0 P2 Bs cs nm pt hd vp n xs b0 b1 false b3 false false false false v0 v1 v2 v3 v4 v5 v6 W) : PkS P0 P2 Bs cs nm pt hd vp n xs b0 b1 true b3 false false false false v0 v1 (.int .u64 (pt : Int)) v3 v4 v5 v6 W :=
  ⟨h.a, h.m, h.z, h.r0, h.r1, (fun _ => rfl), h.r3, h.r4, h.r5, h.n0, h.n1, (fun e => by cases e), h.n3, h.n4, h.n5, h.n6, h.hb⟩
theorem PkS.mk3 (hP : ∀ W w2, P0 W → Below W.heap.size W w2 → P0 w2) (h : PkS P0 P2 Bs cs nm pt hd vp n xs b0 b1 b2 false false false false false v0 v1 v2 v3 v4 v5 v6 W) (cap : Nat) (fr : Nat × Nat) (c : Nat) :
    PkS P0 P2 Bs cs nm pt hd vp n xs b0 b1 b2 true false false false false v0 v1 v2 (.slice (some ⟨W.heap.size, 0, none⟩) nm.size c) v4 v5 v6 (W.alloc (.cells (bytesRow nm cap) 5 fr)).drew := by
  have h := h.step hP (bAl (W := W) (o := .cells (bytesRow nm cap) 5 fr)).drew
  exact ⟨h.a, h.m, h.z, h.r0, h.r1, h.r2, (fun _ _ => ⟨_, c, rfl, al_byt (name_bytV nm cap W)⟩), h.r4, h.r5, h.n0, h.n1, h.n2, (fun e => by cases e), h.n4, h.n5, h.n6, h.hb⟩
theorem PkS.mk4 (hP : ∀ W w2, P0 W → Below W.heap.size W w2 → P0 w2) (h : PkS P0 P2 Bs cs nm pt hd vp n xs b0 true true true false false false false v0 v1 v2 v3 v4 v5 v6 W) (hb : Below W.heap.size W w2) :
    PkS P0 P2 Bs cs nm pt hd vp n xs b0 true true true true false false false v0 v1 v2 v3 (.int .u64 (hd : Int)) v5 v6 w2 := by
  have h := h.step hP hb
  exact ⟨h.a, h.m, h.z, h.r0, (fun _ e => by cases e), h.r2, (fun _ e => by cases e), (fun _ => rfl), h.r5, h.n0, (fun e => by cases e), (fun e => by cases e), (fun e => by cases e), (fun e => by cases e), h.n5, h.n6, h.hb⟩
theorem PkS.mk5 (hP : ∀ W w2, P0 W → Below W.heap.size W w2 → P0 w2) (h : PkS P0 P2 Bs cs nm pt hd vp n xs b0 b1 b2 b3 true false false false v0 v1 v2 v3 v4 v5 v6 W) :
    PkS P0 P2 Bs cs nm pt hd vp n xs b0 b1 b2 b3 true true false false v0 v1 v2 v3 v4 (.slice (some ⟨W.heap.size, 0, none⟩) 1 1) v6 (W.alloc (.cells cs.toArray 116)) := by
  have h := h.step hP (bAl (W := W) (o := .cells cs.toArray 116))
  exact ⟨h.a, h.m, h.z, h.r0, h.r1, h.r2, h.r3, h.r4, (fun _ _ => ⟨_, rfl, blk_new W _⟩), h.n0, h.n1, h.n2, h.n3, (fun e => by cases e), (fun e => by cases e), h.n6, h.hb⟩
theorem PkS.app {o : Oper} {a : Act} {K : Act → World → Prop} {Q : Exit → Act → World → Prop} (hown : ∀ W, P0 W → W.ownsRow Bs 116 20 vp n xs) (hn : n ≤ 100000) (hcs : cs.length = 20) (hone : ∀ u ∈ cs, u.oneCell' = true) (h : PkS P0 P2 Bs cs nm pt hd vp n xs true b1 b2 b3 b4 true false false v0 v1 v2 v3 v4 v5 v6 W)
    (s p : Operand) (ho : o.op = .call { callee := .builtin .append, args := #[s, p], argTypes := #[119, 119] }) (hs : a.eval s = v0) (hp : a.eval p = v5)
    (hK : ∀ v' W', PkS P0 P2 Bs cs nm pt hd vp n xs true b1 b2 b3 b4 true true false v0 v1 v2 v3 v4 v5 v' W' → K (a.put o.dst v') W') : o.wp Tryz.prog a W K Q := by
  obtain ⟨i0, hi, hz0, hz1, hz2⟩ := info_parts infoPk
  obtain rfl := h.r0 rfl
  obtain ⟨g, rfl, hg⟩ := h.r5 rfl rfl
  refine wp_app (P := Tryz.prog) W s p 119 ho Bs 116 i0 _ 20 232 Tryz.underlying119 hi hz0 hz1 hz2 rfl (by decide) v0 n xs hs (hown W (h.a rfl)) (some ⟨g, 0, none⟩) 1 1 cs hp (by rw [hcs]) (fun _ => ⟨g, 0, rfl, fun j u hu => blk_cell hg (by rw [Nat.zero_add]; simpa using hu)⟩) hone (by unfold maxLen; omega) (by omega) h.hb fun v' W' q1 q2 q3 => hK v' W' ?_
  refine ⟨(fun e => by cases e), (fun _ _ => ⟨W, h.a rfl, q2, q3, q1⟩), (fun e => by cases e), (fun _ => rfl), ?_, h.r2, ?_, h.r4, (fun _ e => by cases e), (fun e => by cases e), h.n1, h.n2, h.n3, h.n4, (fun e => by cases e), (fun e => by cases e), Nat.le_trans h.hb q2.size⟩
  · exact fun _ e2 => by have := h.n4 e2; cases this
  · exact fun _ e2 => by have := h.n4 e2; cases this
end
end Go.Proofs.YtmpilgkfbibhlaaGreatDoor
namespace Go.Proofs.YtmpilgkfbibhlaaGreatDoor
open Sx Go.RowKit Mr
theorem leftA_at {a : RegA} {n : Nat} (hn : n < a.bks.length) : leftA a (n : Int) = ((a.bks.getD n (0, [])).2.length : Int) - (a.used.getD n 0 : Nat) := by
 unfold leftA
 rw [if_pos ⟨by omega, by omega⟩, Int.toNat_natCast]
theorem OkB.addP {a : RegA} (ho : OkB a) {nm : ByteArray} (hnm : nameB nm = true) (hl : a.ps.length < 100) : OkB { a with ps := a.ps ++ [(nm, [])] } := by
 refine ⟨ho.sec, ho.u8, ho.us, by simp; omega, fun p hp => ?_⟩
 rcases List.mem_append.1 hp with hp | hp
 ·exact ho.p p hp
 ·obtain rfl := List.mem_singleton.1 hp
  exact ⟨Nat.zero_le _, LegH.nil _, fun e he => by simp [evsOf] at he, hnm⟩
theorem RegAt.vpS {B R : Nat} {g : RegS} {vb vp : Value} {w : World} (h : RegAt B R g vb vp w) : ∃ pa cp, vp = .slice pa g.qs.length cp := by
 obtain ⟨-, h2⟩ := h.row
 rcases h2 with ⟨e1, e2⟩ | ⟨PB, cp, cur, q1, -⟩
 ·exact ⟨none, 0, by rw [e1, e2]⟩
 ·exact ⟨_, cp, q1⟩
theorem RegAt.veS {B R : Nat} {g : RegS} {vb vp : Value} {w : World} (h : RegAt B R g vb vp w) {q : PkV} (hq : q ∈ g.qs) : ∃ pa cp, q.ve = .slice pa q.es.length cp := by
 obtain ⟨-, h2⟩ := h.es q hq
 rcases h2 with ⟨e1, e2⟩ | ⟨PB, cp, cur, q1, -⟩
 ·exact ⟨none, 0, by rw [e1, e2]⟩
 ·exact ⟨_, cp, q1⟩
section
variable {a : RegA} {b : Int} {nm : ByteArray} {e : Evt}
theorem enterA_1 (hb : ¬ (0 ≤ b ∧ b < a.bks.length)) : enterA a b nm e = (3, a) := by unfold enterA; rw [if_pos hb]
theorem enterA_2 (hb : 0 ≤ b ∧ b < a.bks.length) (h : ¬ (nameB nm = true ∧ okX e = true ∧ e.1 ≠ 5 ∧ e.1 ≠ 6)) : enterA a b nm e = (2, a) := by unfold enterA; rw [if_neg (fun c => c hb), if_pos h]
theorem enterA_m (hb : 0 ≤ b ∧ b < a.bks.length) (h : nameB nm = true ∧ okX e = true ∧ e.1 ≠ 5 ∧ e.1 ≠ 6) (hk : e.1 = 1) : enterA a b nm e =
  if findA nm a < a.ps.length then (12, a) else if 100 ≤ a.ps.length then (11, a) else if leftA a b < 1 then (4, a) else (0, putA { a with ps := a.ps ++ [(nm, [])] } b.toNat a.ps.length e) := by
 unfold enterA; rw [if_neg (fun c => c hb), if_neg (fun c => c h), if_pos hk]
theorem enterA_n (hb : 0 ≤ b ∧ b < a.bks.length) (h : nameB nm = true ∧ okX e = true ∧ e.1 ≠ 5 ∧ e.1 ≠ 6) (hk : e.1 ≠ 1) : enterA a b nm e = match a.ps[findA nm a]? with
  | none => (5, a)
  | some p => if canP p.1 (lf p) e = false then (10, a) else if 500 ≤ p.2.length then (11, a) else if leftA a b < 1 then (4, a) else (0, putA a b.toNat (findA nm a) e) := by
 unfold enterA; rw [if_neg (fun c => c hb), if_neg (fun c => c h), if_neg hk]; rfl
theorem ptr_no {pa : Option Addr} {n i cp : Nat} (h : ¬ i < n) : ptrK (.slice pa n cp) n i = .pointer none := by
 unfold ptrK
 cases pa with
 | none => rfl
 | some ad => dsimp only; rw [if_neg h]
theorem ptr_yes {PB n i cp : Nat} (h : i < n) : ptrK (.slice (some ⟨PB, 0, none⟩) n cp) n i = .pointer (some ⟨PB, i * 20, none⟩) := by
 unfold ptrK; dsimp only; rw [if_pos h]
theorem row_slice {W : World} {B E sz n : Nat} {v : Value} {xs : List Value} (h : W.ownsRow B E sz v n xs) : ∃ a c, v = .slice a n c := by
 obtain ⟨-, h2⟩ := h
 rcases h2 with ⟨e1, e2⟩ | ⟨PB, cp, cur, q1, -⟩
 ·exact ⟨none, 0, by rw [e1, e2]⟩
 ·exact ⟨_, cp, q1⟩
end
theorem addPk_all {B R E hd : Nat} {g : RegS} {vb vp v' : Value} {w Wb W : World} {cs : Array Value} {nm : ByteArray} (h : RegAt B R g vb vp Wb) (hw : Below w.heap.size w Wb) (he : Wb.heap[E]? = some (.cells cs 29 (0, 0)))
  (hg : Wb.grownBy W vp.ownBlock) (hv : v'.ownBlock = vp.ownBlock ∨ v'.ownBlock = some Wb.heap.size) (ho : W.ownsRow B 116 20 v' (g.qs.length + 1) (flatK g.qs ++ pkC (newK nm hd))) :
  W.cell? ⟨R, 10, none⟩ = some vp ∧ W.frozen? ⟨R, 10, none⟩ = false ∧ R < W.heap.size ∧ RegAt B R { g with qs := g.qs ++ [newK nm hd] } vb v' (W.setCell ⟨R, 10, none⟩ v') ∧ Moved R g vp { g with qs := g.qs ++ [newK nm hd] } v' w (W.setCell ⟨R, 10, none⟩ v') ∧ (W.setCell ⟨R, 10, none⟩ v').heap[E]? = some (.cells cs 29 (0, 0)) := by
 have hR := blk_kept h.reg hg h.row (by decide)
 have h8 := h.u8
 refine ⟨blk_cell hR (by simp [regC, h8]), blk_free hR, blk_lt hR, h.addPk hg ho, ⟨?_, fun k hk => ?_, fun k hk hN q hq => ?_⟩, blk_set_other (blk_kept he hg h.row (by decide)) (fun c => ?_)⟩
 ·exact ((KeepB.of_below hw).grown hg fun k hk _ => Or.inr (Or.inl hk)).set (Or.inl rfl)
 ·rcases hk with rfl | hk | ⟨q, hq, hk⟩
  ·exact Or.inl (Or.inl rfl)
  ·rcases hv with hv | hv
   ·exact Or.inl (Or.inr (Or.inl (by rw [← hv]; exact hk)))
   ·rw [hv] at hk
    obtain rfl := Option.some.inj hk
    exact Or.inr hw.size
  ·rcases List.mem_append.1 hq with hq | hq
   ·exact Or.inl (Or.inr (Or.inr ⟨q, hq, hk⟩))
   ·obtain rfl := List.mem_singleton.1 hq
    cases hk
 ·rcases List.mem_append.1 hq with hq | hq
  ·exact hN q hq
  ·obtain rfl := List.mem_singleton.1 hq
   exact ⟨fun c => absurd rfl c, fun c => absurd rfl c⟩
 ·have c2 : E = R := c
  rw [c2, h.reg] at he
  cases he
section
variable {B R n : Nat} {a : RegA} {g g2 : RegS} {vb vp vp2 : Value} {w w' W : World} {nm : ByteArray} {a' : RegA}
theorem RegN.after (hM : Moved R g vp g2 vp2 w W) (hN : RegN B R vb a' g2 vp2 W w') : RegN B R vb a' g vp w w' := by
 obtain ⟨g', vp', h1, h2⟩ := hN
 exact ⟨g', vp', h1, hM.trans h2⟩
theorem RegV.addP (h : RegV B R vb a g vp w) (hr : RegAt B R { g with qs := g.qs ++ [newK nm (beginE g.pt nm)] } vb vp2 W) : RegV B R vb { a with ps := a.ps ++ [(nm, [])] } { g with qs := g.qs ++ [newK nm (beginE g.pt nm)] } vp2 W := by
 refine ⟨hr, ?_, fun q hq => ?_⟩
 ·rw [← h.abs]
  unfold RegS.abs
  dsimp only
  rw [List.map_append]
  rfl
 ·rcases List.mem_append.1 hq with hq | hq
  ·exact h.lf q hq
  ·obtain rfl := List.mem_singleton.1 hq
   exact ⟨rfl, rfl⟩
theorem enter_new (h : RegV B R vb a g vp w) (ho : OkA a) (hnm : nameB nm = true) (hl : a.ps.length < 100) (hn : n < a.bks.length) (hu : a.used.getD n 0 < (a.bks.getD n (0, [])).2.length) (e : Evt) (hk : e.1 = 1) (hok : okX e = true) (hr : RegAt B R { g with qs := g.qs ++ [newK nm (beginE g.pt nm)] } vb vp2 W) :
  ∃ PB2 cp2 M, vp2 = .slice (some ⟨PB2, 0, none⟩) M cp2 ∧ M = g.qs.length + 1 ∧ ∀ W', Below W.heap.size W W' → Calls Tryz.prog 65 #[.pointer (some ⟨R, 0, none⟩), .int .i64 (n : Int), .pointer (some ⟨PB2, g.qs.length * 20, none⟩), evX e] W' fun en w' => en = .returned (.tuple #[]) ∧ RegN B R vb (putA { a with ps := a.ps ++ [(nm, [])] } n a.ps.length e) { g with qs := g.qs ++ [newK nm (beginE g.pt nm)] } vp2 W' w' := by
 have hv := h.addP hr
 have hp : ({ a with ps := a.ps ++ [(nm, [])] } : RegA).ps[a.ps.length]? = some (nm, []) := by simp
 have hc : canP nm (lf (nm, [])) e = true := by show canP nm life0 e = true; unfold canP; rw [if_pos (show life0.n = 0 from rfl), hk]; rfl
 have hob := ho.toOkB.addP hnm hl
 obtain ⟨PB2, cp2, e1, -⟩ := enter_view hv hob hp hn hu hok hc
 refine ⟨PB2, cp2, _, e1, by simp, fun W' hW => ?_⟩
 obtain ⟨PB3, cp3, e2, c3⟩ := enter_view (hv.step hW) hob hp hn hu hok hc
 rw [e1] at e2
 cases e2
 rw [h.len]
 exact c3
end
set_option maxHeartbeats 4000000 in
set_option maxRecDepth 20000 in
theorem Enter_1 {B R : Nat} {a : RegA} {g : RegS} {vb vp : Value} {w : World} (h : RegV B R vb a g vp w) (ho : OkA a) (hG : Glob0 w) (b : Int) (nm : ByteArray) (k t ea eb : Int) (n1 ot : ByteArray) (hs : nm.size ≤ 1000000 ∧ n1.size ≤ 1000000 ∧ ot.size ≤ 1000000) (hb : ¬ (0 ≤ b ∧ b < a.bks.length)) :
  Calls Tryz.prog 72 #[.pointer (some ⟨R, 0, none⟩), .int .i64 b, .string nm, .agg #[.int .i64 k, .int .i64 t, .int .i64 ea, .int .i64 eb, .string n1, .string ot]] w fun en w' => en = .returned (.int .i64 (enterA a b nm (k, t, ea, eb, n1, ot)).1) ∧ RegN B R vb (enterA a b nm (k, t, ea, eb, n1, ot)).2 g vp w w' := by
 rw [show enterA a b nm (k, t, ea, eb, n1, ot) = (3, a) from enterA_1 hb]
 dsimp only
 have hok := h.ok ho.toOkB
 have hbks : g.bks = a.bks := by rw [← h.abs]; rfl
 have hlen := h.len
 have hnp := ho.np
 have hla : leftR g b = leftA a b := by rw [left_abs, h.abs]
 have H := Lib.hid h
 obtain ⟨pa, cp, hvp⟩ := h.ra.vpS
 subst hvp
 have CV := Lib.hid (fun W (hW : Below w.heap.size w W) => valid_any (h.ra.step hW) hok.pt.1)
 have CB := Lib.hid (fun W (hW : Below w.heap.size w W) => book_any (h.ra.step hW) b)
 have CN := Lib.hid (fun W => isName_any nm W (by omega))
 have CK := Lib.hid (fun W (hW : Below w.heap.size w W) => Check_any k t ea eb n1 ot W (gstep hG hW) hs.2.1 hs.2.2)
 have CF := Lib.hid (fun W (hW : Below w.heap.size w W) => find_any (h.ra.step hW) nm (by omega))
 have CL := Lib.hid (fun W (hW : Below w.heap.size w W) => Left_any (h.ra.step hW) hok b)
 rw [hbks] at CB
 rw [hla] at CL
 rw [h.find] at CF
 have HG := Lib.hid hG
 have HO := Lib.hid ho
 have HC := Lib.hid (And.intro h.ra.cells.2.2.1 h.ra.cells.2.2.2.1)
 have HLN := Lib.hid hlen
 have HS := Lib.hid hs
 clear hok hbks hnp hla hG hs hlen
 rw [decide_eq_false hb] at CB
 clear hb
 have HX := Lib.hid (blk_new w (.cells #[.int .i64 k, .int .i64 t, .int .i64 ea, .int .i64 eb, .string n1, .string ot] 29))
 have HB := Lib.hid (bAl (W := w) (o := (.cells #[.int .i64 k, .int .i64 t, .int .i64 ea, .int .i64 eb, .string n1, .string ot] 29)))
 clear h ho
 go_enter Tryz.func72, Tryz.ntmps72
 go_upto_region 1 with fail
 generalize w.alloc (.cells #[.int .i64 k, .int .i64 t, .int .i64 ea, .int .i64 eb, .string n1, .string ot] 29) = W0 at *
 have x0 := blk_cell (o := 0) HX.out rfl; have x1 := blk_cell (o := 1) HX.out rfl; have x2 := blk_cell (o := 2) HX.out rfl; have x3 := blk_cell (o := 3) HX.out rfl; have x4 := blk_cell (o := 4) HX.out rfl; have x5 := blk_cell (o := 5) HX.out rfl; have xl := blk_lt HX.out; have c10 := cell_step HC.out.1 HB.out; have cR := Nat.lt_of_lt_of_le HC.out.2 HB.out.size
 go_wp2_with ((first | (go_at_call 56; refine (CV.out _ HB.out).mono ?_) | (go_at_call 59; refine (CB.out _ HB.out).mono ?_) | (go_at_call 39; refine (CN.out _).mono ?_) | (go_at_call 42; refine (CK.out _ HB.out).mono ?_) | (go_at_call 57; refine (CF.out _ HB.out).mono ?_) | (go_at_call 17; refine (CL.out _ HB.out).mono ?_)); rintro e w1 ⟨rfl, hbn⟩; have HX9 := Lib.hid (blk_step HX.out hbn); have HB9 := Lib.hid (bStep HB.out hbn); clear HX HB hbn; clear x0 x1 x2 x3 x4 x5 xl c10 cR; have HX := HX9; have HB := HB9; clear HX9 HB9; have x0 := blk_cell (o := 0) HX.out rfl; have x1 := blk_cell (o := 1) HX.out rfl; have x2 := blk_cell (o := 2) HX.out rfl; have x3 := blk_cell (o := 3) HX.out rfl; have x4 := blk_cell (o := 4) HX.out rfl; have x5 := blk_cell (o := 5) HX.out rfl; have xl := blk_lt HX.out; have c10 := cell_step HC.out.1 HB.out; have cR := Nat.lt_of_lt_of_le HC.out.2 HB.out.size)
 exact bodyPost_ret (v := .int .i64 3) (by simp only [results, Tryz.results72]; go_simp) rfl ⟨rfl, H.out.stay HB.out⟩
set_option maxHeartbeats 4000000 in
set_option maxRecDepth 20000 in
theorem Enter_2 {B R : Nat} {a : RegA} {g : RegS} {vb vp : Value} {w : World} (h : RegV B R vb a g vp w) (ho : OkA a) (hG : Glob0 w) (b : Int) (nm : ByteArray) (k t ea eb : Int) (n1 ot : ByteArray) (hs : nm.size ≤ 1000000 ∧ n1.size ≤ 1000000 ∧ ot.size ≤ 1000000) (hb : 0 ≤ b ∧ b < a.bks.length) (h2 : nameB nm = false) :
  Calls Tryz.prog 72 #[.pointer (some ⟨R, 0, none⟩), .int .i64 b, .string nm, .agg #[.int .i64 k, .int .i64 t, .int .i64 ea, .int .i64 eb, .string n1, .string ot]] w fun en w' => en = .returned (.int .i64 (enterA a b nm (k, t, ea, eb, n1, ot)).1) ∧ RegN B R vb (enterA a b nm (k, t, ea, eb, n1, ot)).2 g vp w w' := by
 rw [show enterA a b nm (k, t, ea, eb, n1, ot) = (2, a) from enterA_2 hb (by simp [h2])]
 dsimp only
 have hok := h.ok ho.toOkB
 have hbks : g.bks = a.bks := by rw [← h.abs]; rfl
 have hlen := h.len
 have hnp := ho.np
 have hla : leftR g b = leftA a b := by rw [left_abs, h.abs]
 have H := Lib.hid h
 obtain ⟨pa, cp, hvp⟩ := h.ra.vpS
 subst hvp
 have CV := Lib.hid (fun W (hW : Below w.heap.size w W) => valid_any (h.ra.step hW) hok.pt.1)
 have CB := Lib.hid (fun W (hW : Below w.heap.size w W) => book_any (h.ra.step hW) b)
 have CN := Lib.hid (fun W => isName_any nm W (by omega))
 have CK := Lib.hid (fun W (hW : Below w.heap.size w W) => Check_any k t ea eb n1 ot W (gstep hG hW) hs.2.1 hs.2.2)
 have CF := Lib.hid (fun W (hW : Below w.heap.size w W) => find_any (h.ra.step hW) nm (by omega))
 have CL := Lib.hid (fun W (hW : Below w.heap.size w W) => Left_any (h.ra.step hW) hok b)
 rw [hbks] at CB
 rw [hla] at CL
 rw [h.find] at CF
 have HG := Lib.hid hG
 have HO := Lib.hid ho
 have HC := Lib.hid (And.intro h.ra.cells.2.2.1 h.ra.cells.2.2.2.1)
 have HLN := Lib.hid hlen
 have HS := Lib.hid hs
 clear hok hbks hnp hla hG hs hlen
 rw [decide_eq_true hb] at CB
 rw [h2] at CN
 clear hb h2
 have HX := Lib.hid (blk_new w (.cells #[.int .i64 k, .int .i64 t, .int .i64 ea, .int .i64 eb, .string n1, .string ot] 29))
 have HB := Lib.hid (bAl (W := w) (o := (.cells #[.int .i64 k, .int .i64 t, .int .i64 ea, .int .i64 eb, .string n1, .string ot] 29)))
 clear h ho
 go_enter Tryz.func72, Tryz.ntmps72
 go_upto_region 1 with fail
 generalize w.alloc (.cells #[.int .i64 k, .int .i64 t, .int .i64 ea, .int .i64 eb, .string n1, .string ot] 29) = W0 at *
 have x0 := blk_cell (o := 0) HX.out rfl; have x1 := blk_cell (o := 1) HX.out rfl; have x2 := blk_cell (o := 2) HX.out rfl; have x3 := blk_cell (o := 3) HX.out rfl; have x4 := blk_cell (o := 4) HX.out rfl; have x5 := blk_cell (o := 5) HX.out rfl; have xl := blk_lt HX.out; have c10 := cell_step HC.out.1 HB.out; have cR := Nat.lt_of_lt_of_le HC.out.2 HB.out.size
 go_wp2_with ((first | (go_at_call 56; refine (CV.out _ HB.out).mono ?_) | (go_at_call 59; refine (CB.out _ HB.out).mono ?_) | (go_at_call 39; refine (CN.out _).mono ?_) | (go_at_call 42; refine (CK.out _ HB.out).mono ?_) | (go_at_call 57; refine (CF.out _ HB.out).mono ?_) | (go_at_call 17; refine (CL.out _ HB.out).mono ?_)); rintro e w1 ⟨rfl, hbn⟩; have HX9 := Lib.hid (blk_step HX.out hbn); have HB9 := Lib.hid (bStep HB.out hbn); clear HX HB hbn; clear x0 x1 x2 x3 x4 x5 xl c10 cR; have HX := HX9; have HB := HB9; clear HX9 HB9; have x0 := blk_cell (o := 0) HX.out rfl; have x1 := blk_cell (o := 1) HX.out rfl; have x2 := blk_cell (o := 2) HX.out rfl; have x3 := blk_cell (o := 3) HX.out rfl; have x4 := blk_cell (o := 4) HX.out rfl; have x5 := blk_cell (o := 5) HX.out rfl; have xl := blk_lt HX.out; have c10 := cell_step HC.out.1 HB.out; have cR := Nat.lt_of_lt_of_le HC.out.2 HB.out.size)
 exact bodyPost_ret (v := .int .i64 2) (by simp only [results, Tryz.results72]; go_simp) rfl ⟨rfl, H.out.stay HB.out⟩
set_option maxHeartbeats 4000000 in
set_option maxRecDepth 20000 in
theorem Enter_3 {B R : Nat} {a : RegA} {g : RegS} {vb vp : Value} {w : World} (h : RegV B R vb a g vp w) (ho : OkA a) (hG : Glob0 w) (b : Int) (nm : ByteArray) (k t ea eb : Int) (n1 ot : ByteArray) (hs : nm.size ≤ 1000000 ∧ n1.size ≤ 1000000 ∧ ot.size ≤ 1000000) (hb : 0 ≤ b ∧ b < a.bks.length) (h2 : nameB nm = true) (h3 : okE k t ea eb n1 ot = false) :
  Calls Tryz.prog 72 #[.pointer (some ⟨R, 0, none⟩), .int .i64 b, .string nm, .agg #[.int .i64 k, .int .i64 t, .int .i64 ea, .int .i64 eb, .string n1, .string ot]] w fun en w' => en = .returned (.int .i64 (enterA a b nm (k, t, ea, eb, n1, ot)).1) ∧ RegN B R vb (enterA a b nm (k, t, ea, eb, n1, ot)).2 g vp w w' := by
 rw [show enterA a b nm (k, t, ea, eb, n1, ot) = (2, a) from enterA_2 hb (by simp [okX, h3])]
 dsimp only
 have hok := h.ok ho.toOkB
 have hbks : g.bks = a.bks := by rw [← h.abs]; rfl
 have hlen := h.len
 have hnp := ho.np
 have hla : leftR g b = leftA a b := by rw [left_abs, h.abs]
 have H := Lib.hid h
 obtain ⟨pa, cp, hvp⟩ := h.ra.vpS
 subst hvp
 have CV := Lib.hid (fun W (hW : Below w.heap.size w W) => valid_any (h.ra.step hW) hok.pt.1)
 have CB := Lib.hid (fun W (hW : Below w.heap.size w W) => book_any (h.ra.step hW) b)
 have CN := Lib.hid (fun W => isName_any nm W (by omega))
 have CK := Lib.hid (fun W (hW : Below w.heap.size w W) => Check_any k t ea eb n1 ot W (gstep hG hW) hs.2.1 hs.2.2)
 have CF := Lib.hid (fun W (hW : Below w.heap.size w W) => find_any (h.ra.step hW) nm (by omega))
 have CL := Lib.hid (fun W (hW : Below w.heap.size w W) => Left_any (h.ra.step hW) hok b)
 rw [hbks] at CB
 rw [hla] at CL
 rw [h.find] at CF
 have HG := Lib.hid hG
 have HO := Lib.hid ho
 have HC := Lib.hid (And.intro h.ra.cells.2.2.1 h.ra.cells.2.2.2.1)
 have HLN := Lib.hid hlen
 have HS := Lib.hid hs
 clear hok hbks hnp hla hG hs hlen
 rw [decide_eq_true hb] at CB
 rw [h2] at CN
 rw [h3] at CK
 simp only [cond_false] at CK
 clear hb h2 h3
 have HX := Lib.hid (blk_new w (.cells #[.int .i64 k, .int .i64 t, .int .i64 ea, .int .i64 eb, .string n1, .string ot] 29))
 have HB := Lib.hid (bAl (W := w) (o := (.cells #[.int .i64 k, .int .i64 t, .int .i64 ea, .int .i64 eb, .string n1, .string ot] 29)))
 clear h ho
 go_enter Tryz.func72, Tryz.ntmps72
 go_upto_region 1 with fail
 generalize w.alloc (.cells #[.int .i64 k, .int .i64 t, .int .i64 ea, .int .i64 eb, .string n1, .string ot] 29) = W0 at *
 have x0 := blk_cell (o := 0) HX.out rfl; have x1 := blk_cell (o := 1) HX.out rfl; have x2 := blk_cell (o := 2) HX.out rfl; have x3 := blk_cell (o := 3) HX.out rfl; have x4 := blk_cell (o := 4) HX.out rfl; have x5 := blk_cell (o := 5) HX.out rfl; have xl := blk_lt HX.out; have c10 := cell_step HC.out.1 HB.out; have cR := Nat.lt_of_lt_of_le HC.out.2 HB.out.size
 go_wp2_with ((first | (go_at_call 56; refine (CV.out _ HB.out).mono ?_) | (go_at_call 59; refine (CB.out _ HB.out).mono ?_) | (go_at_call 39; refine (CN.out _).mono ?_) | (go_at_call 42; refine (CK.out _ HB.out).mono ?_) | (go_at_call 57; refine (CF.out _ HB.out).mono ?_) | (go_at_call 17; refine (CL.out _ HB.out).mono ?_)); rintro e w1 ⟨rfl, hbn⟩; have HX9 := Lib.hid (blk_step HX.out hbn); have HB9 := Lib.hid (bStep HB.out hbn); clear HX HB hbn; clear x0 x1 x2 x3 x4 x5 xl c10 cR; have HX := HX9; have HB := HB9; clear HX9 HB9; have x0 := blk_cell (o := 0) HX.out rfl; have x1 := blk_cell (o := 1) HX.out rfl; have x2 := blk_cell (o := 2) HX.out rfl; have x3 := blk_cell (o := 3) HX.out rfl; have x4 := blk_cell (o := 4) HX.out rfl; have x5 := blk_cell (o := 5) HX.out rfl; have xl := blk_lt HX.out; have c10 := cell_step HC.out.1 HB.out; have cR := Nat.lt_of_lt_of_le HC.out.2 HB.out.size)
 exact bodyPost_ret (v := .int .i64 2) (by simp only [results, Tryz.results72]; go_simp) rfl ⟨rfl, H.out.stay HB.out⟩
set_option maxHeartbeats 4000000 in
set_option maxRecDepth 20000 in
theorem Enter_4 {B R : Nat} {a : RegA} {g : RegS} {vb vp : Value} {w : World} (h : RegV B R vb a g vp w) (ho : OkA a) (hG : Glob0 w) (b : Int) (nm : ByteArray) (k t ea eb : Int) (n1 ot : ByteArray) (hs : nm.size ≤ 1000000 ∧ n1.size ≤ 1000000 ∧ ot.size ≤ 1000000) (hb : 0 ≤ b ∧ b < a.bks.length) (h2 : nameB nm = true) (h3 : okE 5 t ea eb n1 ot = true) :
  Calls Tryz.prog 72 #[.pointer (some ⟨R, 0, none⟩), .int .i64 b, .string nm, .agg #[.int .i64 5, .int .i64 t, .int .i64 ea, .int .i64 eb, .string n1, .string ot]] w fun en w' => en = .returned (.int .i64 (enterA a b nm (5, t, ea, eb, n1, ot)).1) ∧ RegN B R vb (enterA a b nm (5, t, ea, eb, n1, ot)).2 g vp w w' := by
 rw [show enterA a b nm (5, t, ea, eb, n1, ot) = (2, a) from enterA_2 hb (by simp)]
 dsimp only
 have hok := h.ok ho.toOkB
 have hbks : g.bks = a.bks := by rw [← h.abs]; rfl
 have hlen := h.len
 have hnp := ho.np
 have hla : leftR g b = leftA a b := by rw [left_abs, h.abs]
 have H := Lib.hid h
 obtain ⟨pa, cp, hvp⟩ := h.ra.vpS
 subst hvp
 have CV := Lib.hid (fun W (hW : Below w.heap.size w W) => valid_any (h.ra.step hW) hok.pt.1)
 have CB := Lib.hid (fun W (hW : Below w.heap.size w W) => book_any (h.ra.step hW) b)
 have CN := Lib.hid (fun W => isName_any nm W (by omega))
 have CK := Lib.hid (fun W (hW : Below w.heap.size w W) => Check_any k t ea eb n1 ot W (gstep hG hW) hs.2.1 hs.2.2)
 have CF := Lib.hid (fun W (hW : Below w.heap.size w W) => find_any (h.ra.step hW) nm (by omega))
 have CL := Lib.hid (fun W (hW : Below w.heap.size w W) => Left_any (h.ra.step hW) hok b)
 rw [hbks] at CB
 rw [hla] at CL
 rw [h.find] at CF
 have HG := Lib.hid hG
 have HO := Lib.hid ho
 have HC := Lib.hid (And.intro h.ra.cells.2.2.1 h.ra.cells.2.2.2.1)
 have HLN := Lib.hid hlen
 have HS := Lib.hid hs
 clear hok hbks hnp hla hG hs hlen
 rw [decide_eq_true hb] at CB
 rw [h2] at CN
 replace CK := Lib.hid (fun W (hW : Below w.heap.size w W) => Check_any 5 t ea eb n1 ot W (gstep HG.out hW) HS.out.2.1 HS.out.2.2)
 rw [h3] at CK
 simp only [cond_true] at CK
 clear hb h2 h3
 have HX := Lib.hid (blk_new w (.cells #[.int .i64 5, .int .i64 t, .int .i64 ea, .int .i64 eb, .string n1, .string ot] 29))
 have HB := Lib.hid (bAl (W := w) (o := (.cells #[.int .i64 5, .int .i64 t, .int .i64 ea, .int .i64 eb, .string n1, .string ot] 29)))
 clear h ho
 go_enter Tryz.func72, Tryz.ntmps72
 go_upto_region 1 with fail
 generalize w.alloc (.cells #[.int .i64 5, .int .i64 t, .int .i64 ea, .int .i64 eb, .string n1, .string ot] 29) = W0 at *
 have x0 := blk_cell (o := 0) HX.out rfl; have x1 := blk_cell (o := 1) HX.out rfl; have x2 := blk_cell (o := 2) HX.out rfl; have x3 := blk_cell (o := 3) HX.out rfl; have x4 := blk_cell (o := 4) HX.out rfl; have x5 := blk_cell (o := 5) HX.out rfl; have xl := blk_lt HX.out; have c10 := cell_step HC.out.1 HB.out; have cR := Nat.lt_of_lt_of_le HC.out.2 HB.out.size
 go_wp2_with ((first | (go_at_call 56; refine (CV.out _ HB.out).mono ?_) | (go_at_call 59; refine (CB.out _ HB.out).mono ?_) | (go_at_call 39; refine (CN.out _).mono ?_) | (go_at_call 42; refine (CK.out _ HB.out).mono ?_) | (go_at_call 57; refine (CF.out _ HB.out).mono ?_) | (go_at_call 17; refine (CL.out _ HB.out).mono ?_)); rintro e w1 ⟨rfl, hbn⟩; have HX9 := Lib.hid (blk_step HX.out hbn); have HB9 := Lib.hid (bStep HB.out hbn); clear HX HB hbn; clear x0 x1 x2 x3 x4 x5 xl c10 cR; have HX := HX9; have HB := HB9; clear HX9 HB9; have x0 := blk_cell (o := 0) HX.out rfl; have x1 := blk_cell (o := 1) HX.out rfl; have x2 := blk_cell (o := 2) HX.out rfl; have x3 := blk_cell (o := 3) HX.out rfl; have x4 := blk_cell (o := 4) HX.out rfl; have x5 := blk_cell (o := 5) HX.out rfl; have xl := blk_lt HX.out; have c10 := cell_step HC.out.1 HB.out; have cR := Nat.lt_of_lt_of_le HC.out.2 HB.out.size)
 exact bodyPost_ret (v := .int .i64 2) (by simp only [results, Tryz.results72]; go_simp) rfl ⟨rfl, H.out.stay HB.out⟩
set_option maxHeartbeats 4000000 in
set_option maxRecDepth 20000 in
theorem Enter_5 {B R : Nat} {a : RegA} {g : RegS} {vb vp : Value} {w : World} (h : RegV B R vb a g vp w) (ho : OkA a) (hG : Glob0 w) (b : Int) (nm : ByteArray) (k t ea eb : Int) (n1 ot : ByteArray) (hs : nm.size ≤ 1000000 ∧ n1.size ≤ 1000000 ∧ ot.size ≤ 1000000) (hb : 0 ≤ b ∧ b < a.bks.length) (h2 : nameB nm = true) (h3 : okE 6 t ea eb n1 ot = true) :
  Calls Tryz.prog 72 #[.pointer (some ⟨R, 0, none⟩), .int .i64 b, .string nm, .agg #[.int .i64 6, .int .i64 t, .int .i64 ea, .int .i64 eb, .string n1, .string ot]] w fun en w' => en = .returned (.int .i64 (enterA a b nm (6, t, ea, eb, n1, ot)).1) ∧ RegN B R vb (enterA a b nm (6, t, ea, eb, n1, ot)).2 g vp w w' := by
 rw [show enterA a b nm (6, t, ea, eb, n1, ot) = (2, a) from enterA_2 hb (by simp)]
 dsimp only
 have hok := h.ok ho.toOkB
 have hbks : g.bks = a.bks := by rw [← h.abs]; rfl
 have hlen := h.len
 have hnp := ho.np
 have hla : leftR g b = leftA a b := by rw [left_abs, h.abs]
 have H := Lib.hid h
 obtain ⟨pa, cp, hvp⟩ := h.ra.vpS
 subst hvp
 have CV := Lib.hid (fun W (hW : Below w.heap.size w W) => valid_any (h.ra.step hW) hok.pt.1)
 have CB := Lib.hid (fun W (hW : Below w.heap.size w W) => book_any (h.ra.step hW) b)
 have CN := Lib.hid (fun W => isName_any nm W (by omega))
 have CK := Lib.hid (fun W (hW : Below w.heap.size w W) => Check_any k t ea eb n1 ot W (gstep hG hW) hs.2.1 hs.2.2)
 have CF := Lib.hid (fun W (hW : Below w.heap.size w W) => find_any (h.ra.step hW) nm (by omega))
 have CL := Lib.hid (fun W (hW : Below w.heap.size w W) => Left_any (h.ra.step hW) hok b)
 rw [hbks] at CB
 rw [hla] at CL
 rw [h.find] at CF
 have HG := Lib.hid hG
 have HO := Lib.hid ho
 have HC := Lib.hid (And.intro h.ra.cells.2.2.1 h.ra.cells.2.2.2.1)
 have HLN := Lib.hid hlen
 have HS := Lib.hid hs
 clear hok hbks hnp hla hG hs hlen
 rw [decide_eq_true hb] at CB
 rw [h2] at CN
 replace CK := Lib.hid (fun W (hW : Below w.heap.size w W) => Check_any 6 t ea eb n1 ot W (gstep HG.out hW) HS.out.2.1 HS.out.2.2)
 rw [h3] at CK
 simp only [cond_true] at CK
 clear hb h2 h3
 have HX := Lib.hid (blk_new w (.cells #[.int .i64 6, .int .i64 t, .int .i64 ea, .int .i64 eb, .string n1, .string ot] 29))
 have HB := Lib.hid (bAl (W := w) (o := (.cells #[.int .i64 6, .int .i64 t, .int .i64 ea, .int .i64 eb, .string n1, .string ot] 29)))
 clear h ho
 go_enter Tryz.func72, Tryz.ntmps72
 go_upto_region 1 with fail
 generalize w.alloc (.cells #[.int .i64 6, .int .i64 t, .int .i64 ea, .int .i64 eb, .string n1, .string ot] 29) = W0 at *
 have x0 := blk_cell (o := 0) HX.out rfl; have x1 := blk_cell (o := 1) HX.out rfl; have x2 := blk_cell (o := 2) HX.out rfl; have x3 := blk_cell (o := 3) HX.out rfl; have x4 := blk_cell (o := 4) HX.out rfl; have x5 := blk_cell (o := 5) HX.out rfl; have xl := blk_lt HX.out; have c10 := cell_step HC.out.1 HB.out; have cR := Nat.lt_of_lt_of_le HC.out.2 HB.out.size
 go_wp2_with ((first | (go_at_call 56; refine (CV.out _ HB.out).mono ?_) | (go_at_call 59; refine (CB.out _ HB.out).mono ?_) | (go_at_call 39; refine (CN.out _).mono ?_) | (go_at_call 42; refine (CK.out _ HB.out).mono ?_) | (go_at_call 57; refine (CF.out _ HB.out).mono ?_) | (go_at_call 17; refine (CL.out _ HB.out).mono ?_)); rintro e w1 ⟨rfl, hbn⟩; have HX9 := Lib.hid (blk_step HX.out hbn); have HB9 := Lib.hid (bStep HB.out hbn); clear HX HB hbn; clear x0 x1 x2 x3 x4 x5 xl c10 cR; have HX := HX9; have HB := HB9; clear HX9 HB9; have x0 := blk_cell (o := 0) HX.out rfl; have x1 := blk_cell (o := 1) HX.out rfl; have x2 := blk_cell (o := 2) HX.out rfl; have x3 := blk_cell (o := 3) HX.out rfl; have x4 := blk_cell (o := 4) HX.out rfl; have x5 := blk_cell (o := 5) HX.out rfl; have xl := blk_lt HX.out; have c10 := cell_step HC.out.1 HB.out; have cR := Nat.lt_of_lt_of_le HC.out.2 HB.out.size)
 exact bodyPost_ret (v := .int .i64 2) (by simp only [results, Tryz.results72]; go_simp) rfl ⟨rfl, H.out.stay HB.out⟩
set_option maxHeartbeats 4000000 in
set_option maxRecDepth 20000 in
theorem Enter_m1 {B R : Nat} {a : RegA} {g : RegS} {vb vp : Value} {w : World} (h : RegV B R vb a g vp w) (ho : OkA a) (hG : Glob0 w) (b : Int) (nm : ByteArray) (k t ea eb : Int) (n1 ot : ByteArray) (hs : nm.size ≤ 1000000 ∧ n1.size ≤ 1000000 ∧ ot.size ≤ 1000000) (hb : 0 ≤ b ∧ b < a.bks.length) (h2 : nameB nm = true) (h3 : okE 1 t ea eb n1 ot = true) (h4 : findA nm a < a.ps.length) :
  Calls Tryz.prog 72 #[.pointer (some ⟨R, 0, none⟩), .int .i64 b, .string nm, .agg #[.int .i64 1, .int .i64 t, .int .i64 ea, .int .i64 eb, .string n1, .string ot]] w fun en w' => en = .returned (.int .i64 (enterA a b nm (1, t, ea, eb, n1, ot)).1) ∧ RegN B R vb (enterA a b nm (1, t, ea, eb, n1, ot)).2 g vp w w' := by
 rw [show enterA a b nm (1, t, ea, eb, n1, ot) = (12, a) from by rw [enterA_m (e := (1, t, ea, eb, n1, ot)) hb ⟨h2, h3, show (1 : Int) ≠ 5 by decide, show (1 : Int) ≠ 6 by decide⟩ rfl, if_pos h4]]
 dsimp only
 have hok := h.ok ho.toOkB
 have hbks : g.bks = a.bks := by rw [← h.abs]; rfl
 have hlen := h.len
 have hnp := ho.np
 have hla : leftR g b = leftA a b := by rw [left_abs, h.abs]
 have H := Lib.hid h
 obtain ⟨pa, cp, hvp⟩ := h.ra.vpS
 subst hvp
 have CV := Lib.hid (fun W (hW : Below w.heap.size w W) => valid_any (h.ra.step hW) hok.pt.1)
 have CB := Lib.hid (fun W (hW : Below w.heap.size w W) => book_any (h.ra.step hW) b)
 have CN := Lib.hid (fun W => isName_any nm W (by omega))
 have CK := Lib.hid (fun W (hW : Below w.heap.size w W) => Check_any k t ea eb n1 ot W (gstep hG hW) hs.2.1 hs.2.2)
 have CF := Lib.hid (fun W (hW : Below w.heap.size w W) => find_any (h.ra.step hW) nm (by omega))
 have CL := Lib.hid (fun W (hW : Below w.heap.size w W) => Left_any (h.ra.step hW) hok b)
 rw [hbks] at CB
 rw [hla] at CL
 rw [h.find] at CF
 have HG := Lib.hid hG
 have HO := Lib.hid ho
 have HC := Lib.hid (And.intro h.ra.cells.2.2.1 h.ra.cells.2.2.2.1)
 have HLN := Lib.hid hlen
 have HS := Lib.hid hs
 clear hok hbks hnp hla hG hs hlen
 rw [decide_eq_true hb] at CB
 rw [h2] at CN
 replace CK := Lib.hid (fun W (hW : Below w.heap.size w W) => Check_any 1 t ea eb n1 ot W (gstep HG.out hW) HS.out.2.1 HS.out.2.2)
 rw [h3] at CK
 simp only [cond_true] at CK
 obtain ⟨PB, cp2, cur, evp, hPB, hbP, -⟩ := h.ra.packs (by rintro c; have h9 := HLN.out; rw [c] at h9; simp at h9; omega)
 cases evp
 rw [ptr_yes (by have := HLN.out; omega)] at CF
 generalize findA nm a = i at *
 clear hb h2 h3 h4 hbP hPB
 have HX := Lib.hid (blk_new w (.cells #[.int .i64 1, .int .i64 t, .int .i64 ea, .int .i64 eb, .string n1, .string ot] 29))
 have HB := Lib.hid (bAl (W := w) (o := (.cells #[.int .i64 1, .int .i64 t, .int .i64 ea, .int .i64 eb, .string n1, .string ot] 29)))
 clear h ho
 go_enter Tryz.func72, Tryz.ntmps72
 go_upto_region 1 with fail
 generalize w.alloc (.cells #[.int .i64 1, .int .i64 t, .int .i64 ea, .int .i64 eb, .string n1, .string ot] 29) = W0 at *
 have x0 := blk_cell (o := 0) HX.out rfl; have x1 := blk_cell (o := 1) HX.out rfl; have x2 := blk_cell (o := 2) HX.out rfl; have x3 := blk_cell (o := 3) HX.out rfl; have x4 := blk_cell (o := 4) HX.out rfl; have x5 := blk_cell (o := 5) HX.out rfl; have xl := blk_lt HX.out; have c10 := cell_step HC.out.1 HB.out; have cR := Nat.lt_of_lt_of_le HC.out.2 HB.out.size
 go_wp2_with ((first | (go_at_call 56; refine (CV.out _ HB.out).mono ?_) | (go_at_call 59; refine (CB.out _ HB.out).mono ?_) | (go_at_call 39; refine (CN.out _).mono ?_) | (go_at_call 42; refine (CK.out _ HB.out).mono ?_) | (go_at_call 57; refine (CF.out _ HB.out).mono ?_) | (go_at_call 17; refine (CL.out _ HB.out).mono ?_)); rintro e w1 ⟨rfl, hbn⟩; have HX9 := Lib.hid (blk_step HX.out hbn); have HB9 := Lib.hid (bStep HB.out hbn); clear HX HB hbn; clear x0 x1 x2 x3 x4 x5 xl c10 cR; have HX := HX9; have HB := HB9; clear HX9 HB9; have x0 := blk_cell (o := 0) HX.out rfl; have x1 := blk_cell (o := 1) HX.out rfl; have x2 := blk_cell (o := 2) HX.out rfl; have x3 := blk_cell (o := 3) HX.out rfl; have x4 := blk_cell (o := 4) HX.out rfl; have x5 := blk_cell (o := 5) HX.out rfl; have xl := blk_lt HX.out; have c10 := cell_step HC.out.1 HB.out; have cR := Nat.lt_of_lt_of_le HC.out.2 HB.out.size)
 exact bodyPost_ret (v := .int .i64 12) (by simp only [results, Tryz.results72]; go_simp) rfl ⟨rfl, H.out.stay HB.out⟩
set_option maxHeartbeats 4000000 in
set_option maxRecDepth 20000 in
theorem Enter_m2 {B R : Nat} {a : RegA} {g : RegS} {vb vp : Value} {w : World} (h : RegV B R vb a g vp w) (ho : OkA a) (hG : Glob0 w) (b : Int) (nm : ByteArray) (k t ea eb : Int) (n1 ot : ByteArray) (hs : nm.size ≤ 1000000 ∧ n1.size ≤ 1000000 ∧ ot.size ≤ 1000000) (hb : 0 ≤ b ∧ b < a.bks.length) (h2 : nameB nm = true) (h3 : okE 1 t ea eb n1 ot = true) (h4 : ¬ findA nm a < a.ps.length) (h5 : 100 ≤ a.ps.length) :
  Calls Tryz.prog 72 #[.pointer (some ⟨R, 0, none⟩), .int .i64 b, .string nm, .agg #[.int .i64 1, .int .i64 t, .int .i64 ea, .int .i64 eb, .string n1, .string ot]] w fun en w' => en = .returned (.int .i64 (enterA a b nm (1, t, ea, eb, n1, ot)).1) ∧ RegN B R vb (enterA a b nm (1, t, ea, eb, n1, ot)).2 g vp w w' := by
 rw [show enterA a b nm (1, t, ea, eb, n1, ot) = (11, a) from by rw [enterA_m (e := (1, t, ea, eb, n1, ot)) hb ⟨h2, h3, show (1 : Int) ≠ 5 by decide, show (1 : Int) ≠ 6 by decide⟩ rfl, if_neg h4, if_pos h5]]
 dsimp only
 have hok := h.ok ho.toOkB
 have hbks : g.bks = a.bks := by rw [← h.abs]; rfl
 have hlen := h.len
 have hnp := ho.np
 have hla : leftR g b = leftA a b := by rw [left_abs, h.abs]
 have H := Lib.hid h
 obtain ⟨pa, cp, hvp⟩ := h.ra.vpS
 subst hvp
 have CV := Lib.hid (fun W (hW : Below w.heap.size w W) => valid_any (h.ra.step hW) hok.pt.1)
 have CB := Lib.hid (fun W (hW : Below w.heap.size w W) => book_any (h.ra.step hW) b)
 have CN := Lib.hid (fun W => isName_any nm W (by omega))
 have CK := Lib.hid (fun W (hW : Below w.heap.size w W) => Check_any k t ea eb n1 ot W (gstep hG hW) hs.2.1 hs.2.2)
 have CF := Lib.hid (fun W (hW : Below w.heap.size w W) => find_any (h.ra.step hW) nm (by omega))
 have CL := Lib.hid (fun W (hW : Below w.heap.size w W) => Left_any (h.ra.step hW) hok b)
 rw [hbks] at CB
 rw [hla] at CL
 rw [h.find] at CF
 have HG := Lib.hid hG
 have HO := Lib.hid ho
 have HC := Lib.hid (And.intro h.ra.cells.2.2.1 h.ra.cells.2.2.2.1)
 have HLN := Lib.hid hlen
 have HS := Lib.hid hs
 clear hok hbks hnp hla hG hs hlen
 rw [decide_eq_true hb] at CB
 rw [h2] at CN
 replace CK := Lib.hid (fun W (hW : Below w.heap.size w W) => Check_any 1 t ea eb n1 ot W (gstep HG.out hW) HS.out.2.1 HS.out.2.2)
 rw [h3] at CK
 simp only [cond_true] at CK
 rw [ptr_no (by have := HLN.out; omega)] at CF
 have h6 : (100 : Int) ≤ g.qs.length := by have := HLN.out; omega
 generalize findA nm a = i at *
 clear hb h2 h3 h4 h5
 have HX := Lib.hid (blk_new w (.cells #[.int .i64 1, .int .i64 t, .int .i64 ea, .int .i64 eb, .string n1, .string ot] 29))
 have HB := Lib.hid (bAl (W := w) (o := (.cells #[.int .i64 1, .int .i64 t, .int .i64 ea, .int .i64 eb, .string n1, .string ot] 29)))
 clear h ho
 go_enter Tryz.func72, Tryz.ntmps72
 go_upto_region 1 with fail
 generalize w.alloc (.cells #[.int .i64 1, .int .i64 t, .int .i64 ea, .int .i64 eb, .string n1, .string ot] 29) = W0 at *
 have x0 := blk_cell (o := 0) HX.out rfl; have x1 := blk_cell (o := 1) HX.out rfl; have x2 := blk_cell (o := 2) HX.out rfl; have x3 := blk_cell (o := 3) HX.out rfl; have x4 := blk_cell (o := 4) HX.out rfl; have x5 := blk_cell (o := 5) HX.out rfl; have xl := blk_lt HX.out; have c10 := cell_step HC.out.1 HB.out; have cR := Nat.lt_of_lt_of_le HC.out.2 HB.out.size
 go_wp2_with ((first | (go_at_call 56; refine (CV.out _ HB.out).mono ?_) | (go_at_call 59; refine (CB.out _ HB.out).mono ?_) | (go_at_call 39; refine (CN.out _).mono ?_) | (go_at_call 42; refine (CK.out _ HB.out).mono ?_) | (go_at_call 57; refine (CF.out _ HB.out).mono ?_) | (go_at_call 17; refine (CL.out _ HB.out).mono ?_)); rintro e w1 ⟨rfl, hbn⟩; have HX9 := Lib.hid (blk_step HX.out hbn); have HB9 := Lib.hid (bStep HB.out hbn); clear HX HB hbn; clear x0 x1 x2 x3 x4 x5 xl c10 cR; have HX := HX9; have HB := HB9; clear HX9 HB9; have x0 := blk_cell (o := 0) HX.out rfl; have x1 := blk_cell (o := 1) HX.out rfl; have x2 := blk_cell (o := 2) HX.out rfl; have x3 := blk_cell (o := 3) HX.out rfl; have x4 := blk_cell (o := 4) HX.out rfl; have x5 := blk_cell (o := 5) HX.out rfl; have xl := blk_lt HX.out; have c10 := cell_step HC.out.1 HB.out; have cR := Nat.lt_of_lt_of_le HC.out.2 HB.out.size)
 exact bodyPost_ret (v := .int .i64 11) (by simp only [results, Tryz.results72]; go_simp) rfl ⟨rfl, H.out.stay HB.out⟩
set_option maxHeartbeats 4000000 in
set_option maxRecDepth 20000 in
theorem Enter_m3 {B R : Nat} {a : RegA} {g : RegS} {vb vp : Value} {w : World} (h : RegV B R vb a g vp w) (ho : OkA a) (hG : Glob0 w) (b : Int) (nm : ByteArray) (k t ea eb : Int) (n1 ot : ByteArray) (hs : nm.size ≤ 1000000 ∧ n1.size ≤ 1000000 ∧ ot.size ≤ 1000000) (hb : 0 ≤ b ∧ b < a.bks.length) (h2 : nameB nm = true) (h3 : okE 1 t ea eb n1 ot = true) (h4 : ¬ findA nm a < a.ps.length) (h5 : ¬ 100 ≤ a.ps.length) (h6 : leftA a b < 1) :
  Calls Tryz.prog 72 #[.pointer (some ⟨R, 0, none⟩), .int .i64 b, .string nm, .agg #[.int .i64 1, .int .i64 t, .int .i64 ea, .int .i64 eb, .string n1, .string ot]] w fun en w' => en = .returned (.int .i64 (enterA a b nm (1, t, ea, eb, n1, ot)).1) ∧ RegN B R vb (enterA a b nm (1, t, ea, eb, n1, ot)).2 g vp w w' := by
 rw [show enterA a b nm (1, t, ea, eb, n1, ot) = (4, a) from by rw [enterA_m (e := (1, t, ea, eb, n1, ot)) hb ⟨h2, h3, show (1 : Int) ≠ 5 by decide, show (1 : Int) ≠ 6 by decide⟩ rfl, if_neg h4, if_neg h5, if_pos h6]]
 dsimp only
 have hok := h.ok ho.toOkB
 have hbks : g.bks = a.bks := by rw [← h.abs]; rfl
 have hlen := h.len
 have hnp := ho.np
 have hla : leftR g b = leftA a b := by rw [left_abs, h.abs]
 have H := Lib.hid h
 obtain ⟨pa, cp, hvp⟩ := h.ra.vpS
 subst hvp
 have CV := Lib.hid (fun W (hW : Below w.heap.size w W) => valid_any (h.ra.step hW) hok.pt.1)
 have CB := Lib.hid (fun W (hW : Below w.heap.size w W) => book_any (h.ra.step hW) b)
 have CN := Lib.hid (fun W => isName_any nm W (by omega))
 have CK := Lib.hid (fun W (hW : Below w.heap.size w W) => Check_any k t ea eb n1 ot W (gstep hG hW) hs.2.1 hs.2.2)
 have CF := Lib.hid (fun W (hW : Below w.heap.size w W) => find_any (h.ra.step hW) nm (by omega))
 have CL := Lib.hid (fun W (hW : Below w.heap.size w W) => Left_any (h.ra.step hW) hok b)
 rw [hbks] at CB
 rw [hla] at CL
 rw [h.find] at CF
 have HG := Lib.hid hG
 have HO := Lib.hid ho
 have HC := Lib.hid (And.intro h.ra.cells.2.2.1 h.ra.cells.2.2.2.1)
 have HLN := Lib.hid hlen
 have HS := Lib.hid hs
 clear hok hbks hnp hla hG hs hlen
 rw [decide_eq_true hb] at CB
 rw [h2] at CN
 replace CK := Lib.hid (fun W (hW : Below w.heap.size w W) => Check_any 1 t ea eb n1 ot W (gstep HG.out hW) HS.out.2.1 HS.out.2.2)
 rw [h3] at CK
 simp only [cond_true] at CK
 rw [ptr_no (by have := HLN.out; omega)] at CF
 have h7 : ¬ (100 : Int) ≤ g.qs.length := by have := HLN.out; omega
 generalize findA nm a = i at *
 generalize leftA a b = L at *
 clear hb h2 h3 h4 h5
 have HX := Lib.hid (blk_new w (.cells #[.int .i64 1, .int .i64 t, .int .i64 ea, .int .i64 eb, .string n1, .string ot] 29))
 have HB := Lib.hid (bAl (W := w) (o := (.cells #[.int .i64 1, .int .i64 t, .int .i64 ea, .int .i64 eb, .string n1, .string ot] 29)))
 clear h ho
 go_enter Tryz.func72, Tryz.ntmps72
 go_upto_region 1 with fail
 generalize w.alloc (.cells #[.int .i64 1, .int .i64 t, .int .i64 ea, .int .i64 eb, .string n1, .string ot] 29) = W0 at *
 have x0 := blk_cell (o := 0) HX.out rfl; have x1 := blk_cell (o := 1) HX.out rfl; have x2 := blk_cell (o := 2) HX.out rfl; have x3 := blk_cell (o := 3) HX.out rfl; have x4 := blk_cell (o := 4) HX.out rfl; have x5 := blk_cell (o := 5) HX.out rfl; have xl := blk_lt HX.out; have c10 := cell_step HC.out.1 HB.out; have cR := Nat.lt_of_lt_of_le HC.out.2 HB.out.size
 go_upto_region 15 with ((first | (go_at_call 56; refine (CV.out _ HB.out).mono ?_) | (go_at_call 59; refine (CB.out _ HB.out).mono ?_) | (go_at_call 39; refine (CN.out _).mono ?_) | (go_at_call 42; refine (CK.out _ HB.out).mono ?_) | (go_at_call 57; refine (CF.out _ HB.out).mono ?_) | (go_at_call 17; refine (CL.out _ HB.out).mono ?_)); rintro e w1 ⟨rfl, hbn⟩; have HX9 := Lib.hid (blk_step HX.out hbn); have HB9 := Lib.hid (bStep HB.out hbn); clear HX HB hbn; clear x0 x1 x2 x3 x4 x5 xl c10 cR; have HX := HX9; have HB := HB9; clear HX9 HB9; have x0 := blk_cell (o := 0) HX.out rfl; have x1 := blk_cell (o := 1) HX.out rfl; have x2 := blk_cell (o := 2) HX.out rfl; have x3 := blk_cell (o := 3) HX.out rfl; have x4 := blk_cell (o := 4) HX.out rfl; have x5 := blk_cell (o := 5) HX.out rfl; have xl := blk_lt HX.out; have c10 := cell_step HC.out.1 HB.out; have cR := Nat.lt_of_lt_of_le HC.out.2 HB.out.size)
 refine wp_region_lock (by kernel_rfl) (by kernel_rfl) ?_
 repeat (first | (refine WQ.skip rfl rfl rfl rfl ?_; simp only [Act.put, sl1, sl2, sl3, sl4]) | ((first | (apply WQ.val; (exact rfl)) | (apply WQ.valg; (exact rfl); (exact rfl); (exact rfl))); (intro w9 hw9; obtain ⟨s9, rfl⟩ := hw9; simp [go_sem]; first | done | exact rfl); simp only [Act.put, sl1, sl2, sl3, sl4]))
 refine WQ.fin fun W4 hbn => ?_
 have HX9 := Lib.hid (blk_step HX.out hbn); have HB9 := Lib.hid (bStep HB.out hbn); clear HX HB hbn; clear x0 x1 x2 x3 x4 x5 xl c10 cR; have HX := HX9; have HB := HB9; clear HX9 HB9; have x0 := blk_cell (o := 0) HX.out rfl; have x1 := blk_cell (o := 1) HX.out rfl; have x2 := blk_cell (o := 2) HX.out rfl; have x3 := blk_cell (o := 3) HX.out rfl; have x4 := blk_cell (o := 4) HX.out rfl; have x5 := blk_cell (o := 5) HX.out rfl; have xl := blk_lt HX.out; have c10 := cell_step HC.out.1 HB.out; have cR := Nat.lt_of_lt_of_le HC.out.2 HB.out.size
 go_wp2_with ((first | (go_at_call 56; refine (CV.out _ HB.out).mono ?_) | (go_at_call 59; refine (CB.out _ HB.out).mono ?_) | (go_at_call 39; refine (CN.out _).mono ?_) | (go_at_call 42; refine (CK.out _ HB.out).mono ?_) | (go_at_call 57; refine (CF.out _ HB.out).mono ?_) | (go_at_call 17; refine (CL.out _ HB.out).mono ?_)); rintro e w1 ⟨rfl, hbn⟩; have HX9 := Lib.hid (blk_step HX.out hbn); have HB9 := Lib.hid (bStep HB.out hbn); clear HX HB hbn; clear x0 x1 x2 x3 x4 x5 xl c10 cR; have HX := HX9; have HB := HB9; clear HX9 HB9; have x0 := blk_cell (o := 0) HX.out rfl; have x1 := blk_cell (o := 1) HX.out rfl; have x2 := blk_cell (o := 2) HX.out rfl; have x3 := blk_cell (o := 3) HX.out rfl; have x4 := blk_cell (o := 4) HX.out rfl; have x5 := blk_cell (o := 5) HX.out rfl; have xl := blk_lt HX.out; have c10 := cell_step HC.out.1 HB.out; have cR := Nat.lt_of_lt_of_le HC.out.2 HB.out.size)
 exact bodyPost_ret (v := .int .i64 4) (by simp only [results, Tryz.results72]; go_simp) rfl ⟨rfl, H.out.stay HB.out⟩
set_option maxHeartbeats 4000000 in
set_option maxRecDepth 20000 in
theorem Enter_n1 {B R : Nat} {a : RegA} {g : RegS} {vb vp : Value} {w : World} (h : RegV B R vb a g vp w) (ho : OkA a) (hG : Glob0 w) (b : Int) (nm : ByteArray) (k t ea eb : Int) (n1 ot : ByteArray) (hs : nm.size ≤ 1000000 ∧ n1.size ≤ 1000000 ∧ ot.size ≤ 1000000) (hb : 0 ≤ b ∧ b < a.bks.length) (h2 : nameB nm = true) (h3 : okE k t ea eb n1 ot = true) (hk : k ≠ 1 ∧ k ≠ 5 ∧ k ≠ 6) (h4 : ¬ findA nm a < a.ps.length) :
  Calls Tryz.prog 72 #[.pointer (some ⟨R, 0, none⟩), .int .i64 b, .string nm, .agg #[.int .i64 k, .int .i64 t, .int .i64 ea, .int .i64 eb, .string n1, .string ot]] w fun en w' => en = .returned (.int .i64 (enterA a b nm (k, t, ea, eb, n1, ot)).1) ∧ RegN B R vb (enterA a b nm (k, t, ea, eb, n1, ot)).2 g vp w w' := by
 rw [show enterA a b nm (k, t, ea, eb, n1, ot) = (5, a) from by rw [enterA_n (e := (k, t, ea, eb, n1, ot)) hb ⟨h2, h3, hk.2.1, hk.2.2⟩ hk.1, List.getElem?_eq_none (by omega)]]
 dsimp only
 have hok := h.ok ho.toOkB
 have hbks : g.bks = a.bks := by rw [← h.abs]; rfl
 have hlen := h.len
 have hnp := ho.np
 have hla : leftR g b = leftA a b := by rw [left_abs, h.abs]
 have H := Lib.hid h
 obtain ⟨pa, cp, hvp⟩ := h.ra.vpS
 subst hvp
 have CV := Lib.hid (fun W (hW : Below w.heap.size w W) => valid_any (h.ra.step hW) hok.pt.1)
 have CB := Lib.hid (fun W (hW : Below w.heap.size w W) => book_any (h.ra.step hW) b)
 have CN := Lib.hid (fun W => isName_any nm W (by omega))
 have CK := Lib.hid (fun W (hW : Below w.heap.size w W) => Check_any k t ea eb n1 ot W (gstep hG hW) hs.2.1 hs.2.2)
 have CF := Lib.hid (fun W (hW : Below w.heap.size w W) => find_any (h.ra.step hW) nm (by omega))
 have CL := Lib.hid (fun W (hW : Below w.heap.size w W) => Left_any (h.ra.step hW) hok b)
 rw [hbks] at CB
 rw [hla] at CL
 rw [h.find] at CF
 have HG := Lib.hid hG
 have HO := Lib.hid ho
 have HC := Lib.hid (And.intro h.ra.cells.2.2.1 h.ra.cells.2.2.2.1)
 have HLN := Lib.hid hlen
 have HS := Lib.hid hs
 clear hok hbks hnp hla hG hs hlen
 rw [decide_eq_true hb] at CB
 rw [h2] at CN
 rw [h3] at CK
 simp only [cond_true] at CK
 have k1 : (k == 1) = false := by simpa using hk.1
 have k5 : (k == 5) = false := by simpa using hk.2.1
 have k6 : (k == 6) = false := by simpa using hk.2.2
 rw [ptr_no (by have := HLN.out; omega)] at CF
 generalize findA nm a = i at *
 clear hb h2 h3 h4 hk
 have HX := Lib.hid (blk_new w (.cells #[.int .i64 k, .int .i64 t, .int .i64 ea, .int .i64 eb, .string n1, .string ot] 29))
 have HB := Lib.hid (bAl (W := w) (o := (.cells #[.int .i64 k, .int .i64 t, .int .i64 ea, .int .i64 eb, .string n1, .string ot] 29)))
 clear h ho
 go_enter Tryz.func72, Tryz.ntmps72
 go_upto_region 1 with fail
 generalize w.alloc (.cells #[.int .i64 k, .int .i64 t, .int .i64 ea, .int .i64 eb, .string n1, .string ot] 29) = W0 at *
 have x0 := blk_cell (o := 0) HX.out rfl; have x1 := blk_cell (o := 1) HX.out rfl; have x2 := blk_cell (o := 2) HX.out rfl; have x3 := blk_cell (o := 3) HX.out rfl; have x4 := blk_cell (o := 4) HX.out rfl; have x5 := blk_cell (o := 5) HX.out rfl; have xl := blk_lt HX.out; have c10 := cell_step HC.out.1 HB.out; have cR := Nat.lt_of_lt_of_le HC.out.2 HB.out.size
 go_wp2_with ((first | (go_at_call 56; refine (CV.out _ HB.out).mono ?_) | (go_at_call 59; refine (CB.out _ HB.out).mono ?_) | (go_at_call 39; refine (CN.out _).mono ?_) | (go_at_call 42; refine (CK.out _ HB.out).mono ?_) | (go_at_call 57; refine (CF.out _ HB.out).mono ?_) | (go_at_call 17; refine (CL.out _ HB.out).mono ?_)); rintro e w1 ⟨rfl, hbn⟩; have HX9 := Lib.hid (blk_step HX.out hbn); have HB9 := Lib.hid (bStep HB.out hbn); clear HX HB hbn; clear x0 x1 x2 x3 x4 x5 xl c10 cR; have HX := HX9; have HB := HB9; clear HX9 HB9; have x0 := blk_cell (o := 0) HX.out rfl; have x1 := blk_cell (o := 1) HX.out rfl; have x2 := blk_cell (o := 2) HX.out rfl; have x3 := blk_cell (o := 3) HX.out rfl; have x4 := blk_cell (o := 4) HX.out rfl; have x5 := blk_cell (o := 5) HX.out rfl; have xl := blk_lt HX.out; have c10 := cell_step HC.out.1 HB.out; have cR := Nat.lt_of_lt_of_le HC.out.2 HB.out.size)
 exact bodyPost_ret (v := .int .i64 5) (by simp only [results, Tryz.results72]; go_simp) rfl ⟨rfl, H.out.stay HB.out⟩
set_option maxHeartbeats 4000000 in
set_option maxRecDepth 20000 in
theorem Enter_n2 {B R : Nat} {a : RegA} {g : RegS} {vb vp : Value} {w : World} (h : RegV B R vb a g vp w) (ho : OkA a) (hG : Glob0 w) (b : Int) (nm : ByteArray) (k t ea eb : Int) (n1 ot : ByteArray) (hs : nm.size ≤ 1000000 ∧ n1.size ≤ 1000000 ∧ ot.size ≤ 1000000) (hb : 0 ≤ b ∧ b < a.bks.length) (h2 : nameB nm = true) (h3 : okE k t ea eb n1 ot = true) (hk : k ≠ 1 ∧ k ≠ 5 ∧ k ≠ 6) (p : ByteArray × List Ent) (hp : a.ps[findA nm a]? = some p) (h5 : canP p.1 (lf p) (k, t, ea, eb, n1, ot) = false) :
  Calls Tryz.prog 72 #[.pointer (some ⟨R, 0, none⟩), .int .i64 b, .string nm, .agg #[.int .i64 k, .int .i64 t, .int .i64 ea, .int .i64 eb, .string n1, .string ot]] w fun en w' => en = .returned (.int .i64 (enterA a b nm (k, t, ea, eb, n1, ot)).1) ∧ RegN B R vb (enterA a b nm (k, t, ea, eb, n1, ot)).2 g vp w w' := by
 rw [show enterA a b nm (k, t, ea, eb, n1, ot) = (10, a) from by rw [enterA_n (e := (k, t, ea, eb, n1, ot)) hb ⟨h2, h3, hk.2.1, hk.2.2⟩ hk.1, hp]; dsimp only; rw [if_pos h5]]
 dsimp only
 have hok := h.ok ho.toOkB
 have hbks : g.bks = a.bks := by rw [← h.abs]; rfl
 have hlen := h.len
 have hnp := ho.np
 have hla : leftR g b = leftA a b := by rw [left_abs, h.abs]
 have H := Lib.hid h
 obtain ⟨pa, cp, hvp⟩ := h.ra.vpS
 subst hvp
 have CV := Lib.hid (fun W (hW : Below w.heap.size w W) => valid_any (h.ra.step hW) hok.pt.1)
 have CB := Lib.hid (fun W (hW : Below w.heap.size w W) => book_any (h.ra.step hW) b)
 have CN := Lib.hid (fun W => isName_any nm W (by omega))
 have CK := Lib.hid (fun W (hW : Below w.heap.size w W) => Check_any k t ea eb n1 ot W (gstep hG hW) hs.2.1 hs.2.2)
 have CF := Lib.hid (fun W (hW : Below w.heap.size w W) => find_any (h.ra.step hW) nm (by omega))
 have CL := Lib.hid (fun W (hW : Below w.heap.size w W) => Left_any (h.ra.step hW) hok b)
 rw [hbks] at CB
 rw [hla] at CL
 rw [h.find] at CF
 have HG := Lib.hid hG
 have HO := Lib.hid ho
 have HC := Lib.hid (And.intro h.ra.cells.2.2.1 h.ra.cells.2.2.2.1)
 have HLN := Lib.hid hlen
 have HS := Lib.hid hs
 clear hok hbks hnp hla hG hs hlen
 rw [decide_eq_true hb] at CB
 rw [h2] at CN
 rw [h3] at CK
 simp only [cond_true] at CK
 have k1 : (k == 1) = false := by simpa using hk.1
 have k5 : (k == 5) = false := by simpa using hk.2.1
 have k6 : (k == 6) = false := by simpa using hk.2.2
 have h4 : findA nm a < a.ps.length := (List.getElem?_eq_some_iff.1 hp).1
 obtain ⟨PB, cp2, cur, evp, hPB, hbP, -⟩ := h.ra.packs (by rintro c; have h9 := HLN.out; rw [c] at h9; simp at h9; omega)
 cases evp
 rw [ptr_yes (by have := HLN.out; omega)] at CF
 obtain ⟨q, hq, e1, e2, e3, e4⟩ := h.get hp
 obtain ⟨pv, cv, hve⟩ := h.ra.veS (List.mem_of_getElem? hq)
 have hlv := h.ra.life rfl hq
 have hcv := hlv.2.2
 rw [hve, e2] at hcv
 have HCV := Lib.hid (And.intro hcv hlv.1.lt)
 have hlb := HO.out.toOkB.life (List.mem_of_getElem? hp)
 have CC : ∀ W, Below w.heap.size w W → ∀ s : WStep W, Calls Tryz.prog 43 #[.pointer (some ⟨PB, findA nm a * 20, none⟩), .agg #[.int .i64 k, .int .i64 t, .int .i64 ea, .int .i64 eb, .string n1, .string ot]] s.1 fun e w' => e = .returned (.bool (canP p.1 (lf p) (k, t, ea, eb, n1, ot))) ∧ ∃ t : WStep W, w' = t.1 := fun W hW s => by
  have h9 := step_call s (can_any ((hlv.1.step hW).step s.2) (k, t, ea, eb, n1, ot) (okE_ev h3).1.k (by rw [e3]; have := hlb.2.1; omega) (by rw [e3]; have := hlb.2.2; omega))
  rw [e1, e3] at h9
  exact h9
 rw [h5] at CC
 have CC := Lib.hid CC
 generalize findA nm a = i at *
 clear hb h2 h3 h4 hk hp hq e1 e2 e3 e4 hve hlv hcv hlb hbP hPB
 have HX := Lib.hid (blk_new w (.cells #[.int .i64 k, .int .i64 t, .int .i64 ea, .int .i64 eb, .string n1, .string ot] 29))
 have HB := Lib.hid (bAl (W := w) (o := (.cells #[.int .i64 k, .int .i64 t, .int .i64 ea, .int .i64 eb, .string n1, .string ot] 29)))
 clear h ho
 go_enter Tryz.func72, Tryz.ntmps72
 go_upto_region 1 with fail
 generalize w.alloc (.cells #[.int .i64 k, .int .i64 t, .int .i64 ea, .int .i64 eb, .string n1, .string ot] 29) = W0 at *
 have x0 := blk_cell (o := 0) HX.out rfl; have x1 := blk_cell (o := 1) HX.out rfl; have x2 := blk_cell (o := 2) HX.out rfl; have x3 := blk_cell (o := 3) HX.out rfl; have x4 := blk_cell (o := 4) HX.out rfl; have x5 := blk_cell (o := 5) HX.out rfl; have xl := blk_lt HX.out; have c10 := cell_step HC.out.1 HB.out; have cR := Nat.lt_of_lt_of_le HC.out.2 HB.out.size
 go_upto_region 15 with ((first | (go_at_call 56; refine (CV.out _ HB.out).mono ?_) | (go_at_call 59; refine (CB.out _ HB.out).mono ?_) | (go_at_call 39; refine (CN.out _).mono ?_) | (go_at_call 42; refine (CK.out _ HB.out).mono ?_) | (go_at_call 57; refine (CF.out _ HB.out).mono ?_) | (go_at_call 17; refine (CL.out _ HB.out).mono ?_)); rintro e w1 ⟨rfl, hbn⟩; have HX9 := Lib.hid (blk_step HX.out hbn); have HB9 := Lib.hid (bStep HB.out hbn); clear HX HB hbn; clear x0 x1 x2 x3 x4 x5 xl c10 cR; have HX := HX9; have HB := HB9; clear HX9 HB9; have x0 := blk_cell (o := 0) HX.out rfl; have x1 := blk_cell (o := 1) HX.out rfl; have x2 := blk_cell (o := 2) HX.out rfl; have x3 := blk_cell (o := 3) HX.out rfl; have x4 := blk_cell (o := 4) HX.out rfl; have x5 := blk_cell (o := 5) HX.out rfl; have xl := blk_lt HX.out; have c10 := cell_step HC.out.1 HB.out; have cR := Nat.lt_of_lt_of_le HC.out.2 HB.out.size)
 have u0 : ∀ s : WStep w1, s.1.cell? ⟨w.heap.size, 0, none⟩ = some (.int .i64 k) := fun s => cell_step (blk_cell HX.out rfl) s.2
 have u1 : ∀ s : WStep w1, s.1.cell? ⟨w.heap.size, 1, none⟩ = some (.int .i64 t) := fun s => cell_step (blk_cell HX.out rfl) s.2
 have u2 : ∀ s : WStep w1, s.1.cell? ⟨w.heap.size, 2, none⟩ = some (.int .i64 ea) := fun s => cell_step (blk_cell HX.out rfl) s.2
 have u3 : ∀ s : WStep w1, s.1.cell? ⟨w.heap.size, 3, none⟩ = some (.int .i64 eb) := fun s => cell_step (blk_cell HX.out rfl) s.2
 have u4 : ∀ s : WStep w1, s.1.cell? ⟨w.heap.size, 4, none⟩ = some (.string n1) := fun s => cell_step (blk_cell HX.out rfl) s.2
 have u5 : ∀ s : WStep w1, s.1.cell? ⟨w.heap.size, 5, none⟩ = some (.string ot) := fun s => cell_step (blk_cell HX.out rfl) s.2
 have ul : ∀ s : WStep w1, w.heap.size < s.1.heap.size := fun s => Nat.lt_of_lt_of_le (blk_lt HX.out) s.2.size
 have CX := Lib.hid (CC.out _ HB.out)
 refine wp_region_lock (by kernel_rfl) (by kernel_rfl) ?_
 repeat (first | (refine WQ.skip rfl rfl rfl rfl ?_; simp only [Act.put, sl1, sl2, sl3, sl4]) | ((first | (apply WQ.val; (exact rfl)) | (apply WQ.valg; (exact rfl); (exact rfl); (exact rfl))); (intro w9 hw9; obtain ⟨s9, rfl⟩ := hw9; simp [go_sem, u0, u1, u2, u3, u4, u5, ul]; first | done | exact rfl | (with_reducible exact CX.out s9)); simp only [Act.put, sl1, sl2, sl3, sl4]))
 refine WQ.fin fun W4 hbn => ?_
 have HX9 := Lib.hid (blk_step HX.out hbn); have HB9 := Lib.hid (bStep HB.out hbn); clear HX HB hbn; clear x0 x1 x2 x3 x4 x5 xl c10 cR; have HX := HX9; have HB := HB9; clear HX9 HB9; have x0 := blk_cell (o := 0) HX.out rfl; have x1 := blk_cell (o := 1) HX.out rfl; have x2 := blk_cell (o := 2) HX.out rfl; have x3 := blk_cell (o := 3) HX.out rfl; have x4 := blk_cell (o := 4) HX.out rfl; have x5 := blk_cell (o := 5) HX.out rfl; have xl := blk_lt HX.out; have c10 := cell_step HC.out.1 HB.out; have cR := Nat.lt_of_lt_of_le HC.out.2 HB.out.size
 clear u0 u1 u2 u3 u4 u5 ul
 have cv := cell_step HCV.out.1 HB.out
 have lv := Nat.lt_of_lt_of_le HCV.out.2 HB.out.size
 go_wp2_with ((first | (go_at_call 56; refine (CV.out _ HB.out).mono ?_) | (go_at_call 59; refine (CB.out _ HB.out).mono ?_) | (go_at_call 39; refine (CN.out _).mono ?_) | (go_at_call 42; refine (CK.out _ HB.out).mono ?_) | (go_at_call 57; refine (CF.out _ HB.out).mono ?_) | (go_at_call 17; refine (CL.out _ HB.out).mono ?_)); rintro e w1 ⟨rfl, hbn⟩; have HX9 := Lib.hid (blk_step HX.out hbn); have HB9 := Lib.hid (bStep HB.out hbn); clear HX HB hbn; clear x0 x1 x2 x3 x4 x5 xl c10 cR; have HX := HX9; have HB := HB9; clear HX9 HB9; have x0 := blk_cell (o := 0) HX.out rfl; have x1 := blk_cell (o := 1) HX.out rfl; have x2 := blk_cell (o := 2) HX.out rfl; have x3 := blk_cell (o := 3) HX.out rfl; have x4 := blk_cell (o := 4) HX.out rfl; have x5 := blk_cell (o := 5) HX.out rfl; have xl := blk_lt HX.out; have c10 := cell_step HC.out.1 HB.out; have cR := Nat.lt_of_lt_of_le HC.out.2 HB.out.size)
 exact bodyPost_ret (v := .int .i64 10) (by simp only [results, Tryz.results72]; go_simp) rfl ⟨rfl, H.out.stay HB.out⟩
set_option maxHeartbeats 4000000 in
set_option maxRecDepth 20000 in
theorem Enter_n3 {B R : Nat} {a : RegA} {g : RegS} {vb vp : Value} {w : World} (h : RegV B R vb a g vp w) (ho : OkA a) (hG : Glob0 w) (b : Int) (nm : ByteArray) (k t ea eb : Int) (n1 ot : ByteArray) (hs : nm.size ≤ 1000000 ∧ n1.size ≤ 1000000 ∧ ot.size ≤ 1000000) (hb : 0 ≤ b ∧ b < a.bks.length) (h2 : nameB nm = true) (h3 : okE k t ea eb n1 ot = true) (hk : k ≠ 1 ∧ k ≠ 5 ∧ k ≠ 6) (p : ByteArray × List Ent) (hp : a.ps[findA nm a]? = some p) (h5 : canP p.1 (lf p) (k, t, ea, eb, n1, ot) = true) (h6 : 500 ≤ p.2.length) :
  Calls Tryz.prog 72 #[.pointer (some ⟨R, 0, none⟩), .int .i64 b, .string nm, .agg #[.int .i64 k, .int .i64 t, .int .i64 ea, .int .i64 eb, .string n1, .string ot]] w fun en w' => en = .returned (.int .i64 (enterA a b nm (k, t, ea, eb, n1, ot)).1) ∧ RegN B R vb (enterA a b nm (k, t, ea, eb, n1, ot)).2 g vp w w' := by
 rw [show enterA a b nm (k, t, ea, eb, n1, ot) = (11, a) from by rw [enterA_n (e := (k, t, ea, eb, n1, ot)) hb ⟨h2, h3, hk.2.1, hk.2.2⟩ hk.1, hp]; dsimp only; rw [if_neg (by rw [h5]; decide), if_pos h6]]
 dsimp only
 have hok := h.ok ho.toOkB
 have hbks : g.bks = a.bks := by rw [← h.abs]; rfl
 have hlen := h.len
 have hnp := ho.np
 have hla : leftR g b = leftA a b := by rw [left_abs, h.abs]
 have H := Lib.hid h
 obtain ⟨pa, cp, hvp⟩ := h.ra.vpS
 subst hvp
 have CV := Lib.hid (fun W (hW : Below w.heap.size w W) => valid_any (h.ra.step hW) hok.pt.1)
 have CB := Lib.hid (fun W (hW : Below w.heap.size w W) => book_any (h.ra.step hW) b)
 have CN := Lib.hid (fun W => isName_any nm W (by omega))
 have CK := Lib.hid (fun W (hW : Below w.heap.size w W) => Check_any k t ea eb n1 ot W (gstep hG hW) hs.2.1 hs.2.2)
 have CF := Lib.hid (fun W (hW : Below w.heap.size w W) => find_any (h.ra.step hW) nm (by omega))
 have CL := Lib.hid (fun W (hW : Below w.heap.size w W) => Left_any (h.ra.step hW) hok b)
 rw [hbks] at CB
 rw [hla] at CL
 rw [h.find] at CF
 have HG := Lib.hid hG
 have HO := Lib.hid ho
 have HC := Lib.hid (And.intro h.ra.cells.2.2.1 h.ra.cells.2.2.2.1)
 have HLN := Lib.hid hlen
 have HS := Lib.hid hs
 clear hok hbks hnp hla hG hs hlen
 rw [decide_eq_true hb] at CB
 rw [h2] at CN
 rw [h3] at CK
 simp only [cond_true] at CK
 have k1 : (k == 1) = false := by simpa using hk.1
 have k5 : (k == 5) = false := by simpa using hk.2.1
 have k6 : (k == 6) = false := by simpa using hk.2.2
 have h4 : findA nm a < a.ps.length := (List.getElem?_eq_some_iff.1 hp).1
 obtain ⟨PB, cp2, cur, evp, hPB, hbP, -⟩ := h.ra.packs (by rintro c; have h9 := HLN.out; rw [c] at h9; simp at h9; omega)
 cases evp
 rw [ptr_yes (by have := HLN.out; omega)] at CF
 obtain ⟨q, hq, e1, e2, e3, e4⟩ := h.get hp
 obtain ⟨pv, cv, hve⟩ := h.ra.veS (List.mem_of_getElem? hq)
 have hlv := h.ra.life rfl hq
 have hcv := hlv.2.2
 rw [hve, e2] at hcv
 have HCV := Lib.hid (And.intro hcv hlv.1.lt)
 have hlb := HO.out.toOkB.life (List.mem_of_getElem? hp)
 have CC : ∀ W, Below w.heap.size w W → ∀ s : WStep W, Calls Tryz.prog 43 #[.pointer (some ⟨PB, findA nm a * 20, none⟩), .agg #[.int .i64 k, .int .i64 t, .int .i64 ea, .int .i64 eb, .string n1, .string ot]] s.1 fun e w' => e = .returned (.bool (canP p.1 (lf p) (k, t, ea, eb, n1, ot))) ∧ ∃ t : WStep W, w' = t.1 := fun W hW s => by
  have h9 := step_call s (can_any ((hlv.1.step hW).step s.2) (k, t, ea, eb, n1, ot) (okE_ev h3).1.k (by rw [e3]; have := hlb.2.1; omega) (by rw [e3]; have := hlb.2.2; omega))
  rw [e1, e3] at h9
  exact h9
 rw [h5] at CC
 have CC := Lib.hid CC
 have h7 : (500 : Int) ≤ p.2.length := by omega
 generalize findA nm a = i at *
 generalize p.2.length = L2 at *
 clear hb h2 h3 h4 hk hp hq e1 e2 e3 e4 hve hlv hcv hlb hbP hPB
 have HX := Lib.hid (blk_new w (.cells #[.int .i64 k, .int .i64 t, .int .i64 ea, .int .i64 eb, .string n1, .string ot] 29))
 have HB := Lib.hid (bAl (W := w) (o := (.cells #[.int .i64 k, .int .i64 t, .int .i64 ea, .int .i64 eb, .string n1, .string ot] 29)))
 clear h ho
 go_enter Tryz.func72, Tryz.ntmps72
 go_upto_region 1 with fail
 generalize w.alloc (.cells #[.int .i64 k, .int .i64 t, .int .i64 ea, .int .i64 eb, .string n1, .string ot] 29) = W0 at *
 have x0 := blk_cell (o := 0) HX.out rfl; have x1 := blk_cell (o := 1) HX.out rfl; have x2 := blk_cell (o := 2) HX.out rfl; have x3 := blk_cell (o := 3) HX.out rfl; have x4 := blk_cell (o := 4) HX.out rfl; have x5 := blk_cell (o := 5) HX.out rfl; have xl := blk_lt HX.out; have c10 := cell_step HC.out.1 HB.out; have cR := Nat.lt_of_lt_of_le HC.out.2 HB.out.size
 go_upto_region 15 with ((first | (go_at_call 56; refine (CV.out _ HB.out).mono ?_) | (go_at_call 59; refine (CB.out _ HB.out).mono ?_) | (go_at_call 39; refine (CN.out _).mono ?_) | (go_at_call 42; refine (CK.out _ HB.out).mono ?_) | (go_at_call 57; refine (CF.out _ HB.out).mono ?_) | (go_at_call 17; refine (CL.out _ HB.out).mono ?_)); rintro e w1 ⟨rfl, hbn⟩; have HX9 := Lib.hid (blk_step HX.out hbn); have HB9 := Lib.hid (bStep HB.out hbn); clear HX HB hbn; clear x0 x1 x2 x3 x4 x5 xl c10 cR; have HX := HX9; have HB := HB9; clear HX9 HB9; have x0 := blk_cell (o := 0) HX.out rfl; have x1 := blk_cell (o := 1) HX.out rfl; have x2 := blk_cell (o := 2) HX.out rfl; have x3 := blk_cell (o := 3) HX.out rfl; have x4 := blk_cell (o := 4) HX.out rfl; have x5 := blk_cell (o := 5) HX.out rfl; have xl := blk_lt HX.out; have c10 := cell_step HC.out.1 HB.out; have cR := Nat.lt_of_lt_of_le HC.out.2 HB.out.size)
 have u0 : ∀ s : WStep w1, s.1.cell? ⟨w.heap.size, 0, none⟩ = some (.int .i64 k) := fun s => cell_step (blk_cell HX.out rfl) s.2
 have u1 : ∀ s : WStep w1, s.1.cell? ⟨w.heap.size, 1, none⟩ = some (.int .i64 t) := fun s => cell_step (blk_cell HX.out rfl) s.2
 have u2 : ∀ s : WStep w1, s.1.cell? ⟨w.heap.size, 2, none⟩ = some (.int .i64 ea) := fun s => cell_step (blk_cell HX.out rfl) s.2
 have u3 : ∀ s : WStep w1, s.1.cell? ⟨w.heap.size, 3, none⟩ = some (.int .i64 eb) := fun s => cell_step (blk_cell HX.out rfl) s.2
 have u4 : ∀ s : WStep w1, s.1.cell? ⟨w.heap.size, 4, none⟩ = some (.string n1) := fun s => cell_step (blk_cell HX.out rfl) s.2
 have u5 : ∀ s : WStep w1, s.1.cell? ⟨w.heap.size, 5, none⟩ = some (.string ot) := fun s => cell_step (blk_cell HX.out rfl) s.2
 have ul : ∀ s : WStep w1, w.heap.size < s.1.heap.size := fun s => Nat.lt_of_lt_of_le (blk_lt HX.out) s.2.size
 have CX := Lib.hid (CC.out _ HB.out)
 refine wp_region_lock (by kernel_rfl) (by kernel_rfl) ?_
 repeat (first | (refine WQ.skip rfl rfl rfl rfl ?_; simp only [Act.put, sl1, sl2, sl3, sl4]) | ((first | (apply WQ.val; (exact rfl)) | (apply WQ.valg; (exact rfl); (exact rfl); (exact rfl))); (intro w9 hw9; obtain ⟨s9, rfl⟩ := hw9; simp [go_sem, u0, u1, u2, u3, u4, u5, ul]; first | done | exact rfl | (with_reducible exact CX.out s9)); simp only [Act.put, sl1, sl2, sl3, sl4]))
 refine WQ.fin fun W4 hbn => ?_
 have HX9 := Lib.hid (blk_step HX.out hbn); have HB9 := Lib.hid (bStep HB.out hbn); clear HX HB hbn; clear x0 x1 x2 x3 x4 x5 xl c10 cR; have HX := HX9; have HB := HB9; clear HX9 HB9; have x0 := blk_cell (o := 0) HX.out rfl; have x1 := blk_cell (o := 1) HX.out rfl; have x2 := blk_cell (o := 2) HX.out rfl; have x3 := blk_cell (o := 3) HX.out rfl; have x4 := blk_cell (o := 4) HX.out rfl; have x5 := blk_cell (o := 5) HX.out rfl; have xl := blk_lt HX.out; have c10 := cell_step HC.out.1 HB.out; have cR := Nat.lt_of_lt_of_le HC.out.2 HB.out.size
 clear u0 u1 u2 u3 u4 u5 ul
 have cv := cell_step HCV.out.1 HB.out
 have lv := Nat.lt_of_lt_of_le HCV.out.2 HB.out.size
 go_wp2_with ((first | (go_at_call 56; refine (CV.out _ HB.out).mono ?_) | (go_at_call 59; refine (CB.out _ HB.out).mono ?_) | (go_at_call 39; refine (CN.out _).mono ?_) | (go_at_call 42; refine (CK.out _ HB.out).mono ?_) | (go_at_call 57; refine (CF.out _ HB.out).mono ?_) | (go_at_call 17; refine (CL.out _ HB.out).mono ?_)); rintro e w1 ⟨rfl, hbn⟩; have HX9 := Lib.hid (blk_step HX.out hbn); have HB9 := Lib.hid (bStep HB.out hbn); clear HX HB hbn; clear x0 x1 x2 x3 x4 x5 xl c10 cR; have HX := HX9; have HB := HB9; clear HX9 HB9; have x0 := blk_cell (o := 0) HX.out rfl; have x1 := blk_cell (o := 1) HX.out rfl; have x2 := blk_cell (o := 2) HX.out rfl; have x3 := blk_cell (o := 3) HX.out rfl; have x4 := blk_cell (o := 4) HX.out rfl; have x5 := blk_cell (o := 5) HX.out rfl; have xl := blk_lt HX.out; have c10 := cell_step HC.out.1 HB.out; have cR := Nat.lt_of_lt_of_le HC.out.2 HB.out.size)
 exact bodyPost_ret (v := .int .i64 11) (by simp only [results, Tryz.results72]; go_simp) rfl ⟨rfl, H.out.stay HB.out⟩
set_option maxHeartbeats 4000000 in
set_option maxRecDepth 20000 in
theorem Enter_n4 {B R : Nat} {a : RegA} {g : RegS} {vb vp : Value} {w : World} (h : RegV B R vb a g vp w) (ho : OkA a) (hG : Glob0 w) (b : Int) (nm : ByteArray) (k t ea eb : Int) (n1 ot : ByteArray) (hs : nm.size ≤ 1000000 ∧ n1.size ≤ 1000000 ∧ ot.size ≤ 1000000) (hb : 0 ≤ b ∧ b < a.bks.length) (h2 : nameB nm = true) (h3 : okE k t ea eb n1 ot = true) (hk : k ≠ 1 ∧ k ≠ 5 ∧ k ≠ 6) (p : ByteArray × List Ent) (hp : a.ps[findA nm a]? = some p) (h5 : canP p.1 (lf p) (k, t, ea, eb, n1, ot) = true) (h6 : ¬ 500 ≤ p.2.length) (h8 : leftA a b < 1) :
  Calls Tryz.prog 72 #[.pointer (some ⟨R, 0, none⟩), .int .i64 b, .string nm, .agg #[.int .i64 k, .int .i64 t, .int .i64 ea, .int .i64 eb, .string n1, .string ot]] w fun en w' => en = .returned (.int .i64 (enterA a b nm (k, t, ea, eb, n1, ot)).1) ∧ RegN B R vb (enterA a b nm (k, t, ea, eb, n1, ot)).2 g vp w w' := by
 rw [show enterA a b nm (k, t, ea, eb, n1, ot) = (4, a) from by rw [enterA_n (e := (k, t, ea, eb, n1, ot)) hb ⟨h2, h3, hk.2.1, hk.2.2⟩ hk.1, hp]; dsimp only; rw [if_neg (by rw [h5]; decide), if_neg h6, if_pos h8]]
 dsimp only
 have hok := h.ok ho.toOkB
 have hbks : g.bks = a.bks := by rw [← h.abs]; rfl
 have hlen := h.len
 have hnp := ho.np
 have hla : leftR g b = leftA a b := by rw [left_abs, h.abs]
 have H := Lib.hid h
 obtain ⟨pa, cp, hvp⟩ := h.ra.vpS
 subst hvp
 have CV := Lib.hid (fun W (hW : Below w.heap.size w W) => valid_any (h.ra.step hW) hok.pt.1)
 have CB := Lib.hid (fun W (hW : Below w.heap.size w W) => book_any (h.ra.step hW) b)
 have CN := Lib.hid (fun W => isName_any nm W (by omega))
 have CK := Lib.hid (fun W (hW : Below w.heap.size w W) => Check_any k t ea eb n1 ot W (gstep hG hW) hs.2.1 hs.2.2)
 have CF := Lib.hid (fun W (hW : Below w.heap.size w W) => find_any (h.ra.step hW) nm (by omega))
 have CL := Lib.hid (fun W (hW : Below w.heap.size w W) => Left_any (h.ra.step hW) hok b)
 rw [hbks] at CB
 rw [hla] at CL
 rw [h.find] at CF
 have HG := Lib.hid hG
 have HO := Lib.hid ho
 have HC := Lib.hid (And.intro h.ra.cells.2.2.1 h.ra.cells.2.2.2.1)
 have HLN := Lib.hid hlen
 have HS := Lib.hid hs
 clear hok hbks hnp hla hG hs hlen
 rw [decide_eq_true hb] at CB
 rw [h2] at CN
 rw [h3] at CK
 simp only [cond_true] at CK
 have k1 : (k == 1) = false := by simpa using hk.1
 have k5 : (k == 5) = false := by simpa using hk.2.1
 have k6 : (k == 6) = false := by simpa using hk.2.2
 have h4 : findA nm a < a.ps.length := (List.getElem?_eq_some_iff.1 hp).1
 obtain ⟨PB, cp2, cur, evp, hPB, hbP, -⟩ := h.ra.packs (by rintro c; have h9 := HLN.out; rw [c] at h9; simp at h9; omega)
 cases evp
 rw [ptr_yes (by have := HLN.out; omega)] at CF
 obtain ⟨q, hq, e1, e2, e3, e4⟩ := h.get hp
 obtain ⟨pv, cv, hve⟩ := h.ra.veS (List.mem_of_getElem? hq)
 have hlv := h.ra.life rfl hq
 have hcv := hlv.2.2
 rw [hve, e2] at hcv
 have HCV := Lib.hid (And.intro hcv hlv.1.lt)
 have hlb := HO.out.toOkB.life (List.mem_of_getElem? hp)
 have CC : ∀ W, Below w.heap.size w W → ∀ s : WStep W, Calls Tryz.prog 43 #[.pointer (some ⟨PB, findA nm a * 20, none⟩), .agg #[.int .i64 k, .int .i64 t, .int .i64 ea, .int .i64 eb, .string n1, .string ot]] s.1 fun e w' => e = .returned (.bool (canP p.1 (lf p) (k, t, ea, eb, n1, ot))) ∧ ∃ t : WStep W, w' = t.1 := fun W hW s => by
  have h9 := step_call s (can_any ((hlv.1.step hW).step s.2) (k, t, ea, eb, n1, ot) (okE_ev h3).1.k (by rw [e3]; have := hlb.2.1; omega) (by rw [e3]; have := hlb.2.2; omega))
  rw [e1, e3] at h9
  exact h9
 rw [h5] at CC
 have CC := Lib.hid CC
 have h7 : ¬ (500 : Int) ≤ p.2.length := by omega
 generalize findA nm a = i at *
 generalize p.2.length = L2 at *
 generalize leftA a b = L at *
 clear hb h2 h3 h4 hk hp hq e1 e2 e3 e4 hve hlv hcv hlb hbP hPB
 have HX := Lib.hid (blk_new w (.cells #[.int .i64 k, .int .i64 t, .int .i64 ea, .int .i64 eb, .string n1, .string ot] 29))
 have HB := Lib.hid (bAl (W := w) (o := (.cells #[.int .i64 k, .int .i64 t, .int .i64 ea, .int .i64 eb, .string n1, .string ot] 29)))
 clear h ho
 go_enter Tryz.func72, Tryz.ntmps72
 go_upto_region 1 with fail
 generalize w.alloc (.cells #[.int .i64 k, .int .i64 t, .int .i64 ea, .int .i64 eb, .string n1, .string ot] 29) = W0 at *
 have x0 := blk_cell (o := 0) HX.out rfl; have x1 := blk_cell (o := 1) HX.out rfl; have x2 := blk_cell (o := 2) HX.out rfl; have x3 := blk_cell (o := 3) HX.out rfl; have x4 := blk_cell (o := 4) HX.out rfl; have x5 := blk_cell (o := 5) HX.out rfl; have xl := blk_lt HX.out; have c10 := cell_step HC.out.1 HB.out; have cR := Nat.lt_of_lt_of_le HC.out.2 HB.out.size
 go_upto_region 15 with ((first | (go_at_call 56; refine (CV.out _ HB.out).mono ?_) | (go_at_call 59; refine (CB.out _ HB.out).mono ?_) | (go_at_call 39; refine (CN.out _).mono ?_) | (go_at_call 42; refine (CK.out _ HB.out).mono ?_) | (go_at_call 57; refine (CF.out _ HB.out).mono ?_) | (go_at_call 17; refine (CL.out _ HB.out).mono ?_)); rintro e w1 ⟨rfl, hbn⟩; have HX9 := Lib.hid (blk_step HX.out hbn); have HB9 := Lib.hid (bStep HB.out hbn); clear HX HB hbn; clear x0 x1 x2 x3 x4 x5 xl c10 cR; have HX := HX9; have HB := HB9; clear HX9 HB9; have x0 := blk_cell (o := 0) HX.out rfl; have x1 := blk_cell (o := 1) HX.out rfl; have x2 := blk_cell (o := 2) HX.out rfl; have x3 := blk_cell (o := 3) HX.out rfl; have x4 := blk_cell (o := 4) HX.out rfl; have x5 := blk_cell (o := 5) HX.out rfl; have xl := blk_lt HX.out; have c10 := cell_step HC.out.1 HB.out; have cR := Nat.lt_of_lt_of_le HC.out.2 HB.out.size)
 have u0 : ∀ s : WStep w1, s.1.cell? ⟨w.heap.size, 0, none⟩ = some (.int .i64 k) := fun s => cell_step (blk_cell HX.out rfl) s.2
 have u1 : ∀ s : WStep w1, s.1.cell? ⟨w.heap.size, 1, none⟩ = some (.int .i64 t) := fun s => cell_step (blk_cell HX.out rfl) s.2
 have u2 : ∀ s : WStep w1, s.1.cell? ⟨w.heap.size, 2, none⟩ = some (.int .i64 ea) := fun s => cell_step (blk_cell HX.out rfl) s.2
 have u3 : ∀ s : WStep w1, s.1.cell? ⟨w.heap.size, 3, none⟩ = some (.int .i64 eb) := fun s => cell_step (blk_cell HX.out rfl) s.2
 have u4 : ∀ s : WStep w1, s.1.cell? ⟨w.heap.size, 4, none⟩ = some (.string n1) := fun s => cell_step (blk_cell HX.out rfl) s.2
 have u5 : ∀ s : WStep w1, s.1.cell? ⟨w.heap.size, 5, none⟩ = some (.string ot) := fun s => cell_step (blk_cell HX.out rfl) s.2
 have ul : ∀ s : WStep w1, w.heap.size < s.1.heap.size := fun s => Nat.lt_of_lt_of_le (blk_lt HX.out) s.2.size
 have CX := Lib.hid (CC.out _ HB.out)
 refine wp_region_lock (by kernel_rfl) (by kernel_rfl) ?_
 repeat (first | (refine WQ.skip rfl rfl rfl rfl ?_; simp only [Act.put, sl1, sl2, sl3, sl4]) | ((first | (apply WQ.val; (exact rfl)) | (apply WQ.valg; (exact rfl); (exact rfl); (exact rfl))); (intro w9 hw9; obtain ⟨s9, rfl⟩ := hw9; simp [go_sem, u0, u1, u2, u3, u4, u5, ul]; first | done | exact rfl | (with_reducible exact CX.out s9)); simp only [Act.put, sl1, sl2, sl3, sl4]))
 refine WQ.fin fun W4 hbn => ?_
 have HX9 := Lib.hid (blk_step HX.out hbn); have HB9 := Lib.hid (bStep HB.out hbn); clear HX HB hbn; clear x0 x1 x2 x3 x4 x5 xl c10 cR; have HX := HX9; have HB := HB9; clear HX9 HB9; have x0 := blk_cell (o := 0) HX.out rfl; have x1 := blk_cell (o := 1) HX.out rfl; have x2 := blk_cell (o := 2) HX.out rfl; have x3 := blk_cell (o := 3) HX.out rfl; have x4 := blk_cell (o := 4) HX.out rfl; have x5 := blk_cell (o := 5) HX.out rfl; have xl := blk_lt HX.out; have c10 := cell_step HC.out.1 HB.out; have cR := Nat.lt_of_lt_of_le HC.out.2 HB.out.size
 clear u0 u1 u2 u3 u4 u5 ul
 have cv := cell_step HCV.out.1 HB.out
 have lv := Nat.lt_of_lt_of_le HCV.out.2 HB.out.size
 go_wp2_with ((first | (go_at_call 56; refine (CV.out _ HB.out).mono ?_) | (go_at_call 59; refine (CB.out _ HB.out).mono ?_) | (go_at_call 39; refine (CN.out _).mono ?_) | (go_at_call 42; refine (CK.out _ HB.out).mono ?_) | (go_at_call 57; refine (CF.out _ HB.out).mono ?_) | (go_at_call 17; refine (CL.out _ HB.out).mono ?_)); rintro e w1 ⟨rfl, hbn⟩; have HX9 := Lib.hid (blk_step HX.out hbn); have HB9 := Lib.hid (bStep HB.out hbn); clear HX HB hbn; clear x0 x1 x2 x3 x4 x5 xl c10 cR; have HX := HX9; have HB := HB9; clear HX9 HB9; have x0 := blk_cell (o := 0) HX.out rfl; have x1 := blk_cell (o := 1) HX.out rfl; have x2 := blk_cell (o := 2) HX.out rfl; have x3 := blk_cell (o := 3) HX.out rfl; have x4 := blk_cell (o := 4) HX.out rfl; have x5 := blk_cell (o := 5) HX.out rfl; have xl := blk_lt HX.out; have c10 := cell_step HC.out.1 HB.out; have cR := Nat.lt_of_lt_of_le HC.out.2 HB.out.size)
 exact bodyPost_ret (v := .int .i64 4) (by simp only [results, Tryz.results72]; go_simp) rfl ⟨rfl, H.out.stay HB.out⟩
set_option maxHeartbeats 4000000 in
set_option maxRecDepth 20000 in
theorem Enter_n5 {B R : Nat} {a : RegA} {g : RegS} {vb vp : Value} {w : World} (h : RegV B R vb a g vp w) (ho : OkA a) (hG : Glob0 w) (n : Nat) (nm : ByteArray) (k t ea eb : Int) (n1 ot : ByteArray) (hs : nm.size ≤ 1000000 ∧ n1.size ≤ 1000000 ∧ ot.size ≤ 1000000) (hb : 0 ≤ (n : Int) ∧ (n : Int) < a.bks.length) (h2 : nameB nm = true) (h3 : okE k t ea eb n1 ot = true) (hk : k ≠ 1 ∧ k ≠ 5 ∧ k ≠ 6) (p : ByteArray × List Ent) (hp : a.ps[findA nm a]? = some p) (h5 : canP p.1 (lf p) (k, t, ea, eb, n1, ot) = true) (h6 : ¬ 500 ≤ p.2.length) (h8 : ¬ leftA a (n : Int) < 1) :
  Calls Tryz.prog 72 #[.pointer (some ⟨R, 0, none⟩), .int .i64 (n : Int), .string nm, .agg #[.int .i64 k, .int .i64 t, .int .i64 ea, .int .i64 eb, .string n1, .string ot]] w fun en w' => en = .returned (.int .i64 (enterA a (n : Int) nm (k, t, ea, eb, n1, ot)).1) ∧ RegN B R vb (enterA a (n : Int) nm (k, t, ea, eb, n1, ot)).2 g vp w w' := by
 rw [show enterA a (n : Int) nm (k, t, ea, eb, n1, ot) = (0, putA a n (findA nm a) (k, t, ea, eb, n1, ot)) from by rw [enterA_n (e := (k, t, ea, eb, n1, ot)) hb ⟨h2, h3, hk.2.1, hk.2.2⟩ hk.1, hp]; dsimp only; rw [if_neg (by rw [h5]; decide), if_neg h6, if_neg h8, Int.toNat_natCast]]
 dsimp only
 have hok := h.ok ho.toOkB
 have hbks : g.bks = a.bks := by rw [← h.abs]; rfl
 have hlen := h.len
 have hnp := ho.np
 have hla : leftR g (n : Int) = leftA a (n : Int) := by rw [left_abs, h.abs]
 have H := Lib.hid h
 obtain ⟨pa, cp, hvp⟩ := h.ra.vpS
 subst hvp
 have CV := Lib.hid (fun W (hW : Below w.heap.size w W) => valid_any (h.ra.step hW) hok.pt.1)
 have CB := Lib.hid (fun W (hW : Below w.heap.size w W) => book_any (h.ra.step hW) (n : Int))
 have CN := Lib.hid (fun W => isName_any nm W (by omega))
 have CK := Lib.hid (fun W (hW : Below w.heap.size w W) => Check_any k t ea eb n1 ot W (gstep hG hW) hs.2.1 hs.2.2)
 have CF := Lib.hid (fun W (hW : Below w.heap.size w W) => find_any (h.ra.step hW) nm (by omega))
 have CL := Lib.hid (fun W (hW : Below w.heap.size w W) => Left_any (h.ra.step hW) hok (n : Int))
 rw [hbks] at CB
 rw [hla] at CL
 rw [h.find] at CF
 have HG := Lib.hid hG
 have HO := Lib.hid ho
 have HC := Lib.hid (And.intro h.ra.cells.2.2.1 h.ra.cells.2.2.2.1)
 have HLN := Lib.hid hlen
 have HS := Lib.hid hs
 clear hok hbks hnp hla hG hs hlen
 rw [decide_eq_true hb] at CB
 rw [h2] at CN
 rw [h3] at CK
 simp only [cond_true] at CK
 have k1 : (k == 1) = false := by simpa using hk.1
 have k5 : (k == 5) = false := by simpa using hk.2.1
 have k6 : (k == 6) = false := by simpa using hk.2.2
 have h4 : findA nm a < a.ps.length := (List.getElem?_eq_some_iff.1 hp).1
 obtain ⟨PB, cp2, cur, evp, hPB, hbP, -⟩ := h.ra.packs (by rintro c; have h9 := HLN.out; rw [c] at h9; simp at h9; omega)
 cases evp
 rw [ptr_yes (by have := HLN.out; omega)] at CF
 obtain ⟨q, hq, e1, e2, e3, e4⟩ := h.get hp
 obtain ⟨pv, cv, hve⟩ := h.ra.veS (List.mem_of_getElem? hq)
 have hlv := h.ra.life rfl hq
 have hcv := hlv.2.2
 rw [hve, e2] at hcv
 have HCV := Lib.hid (And.intro hcv hlv.1.lt)
 have hlb := HO.out.toOkB.life (List.mem_of_getElem? hp)
 have CC : ∀ W, Below w.heap.size w W → ∀ s : WStep W, Calls Tryz.prog 43 #[.pointer (some ⟨PB, findA nm a * 20, none⟩), .agg #[.int .i64 k, .int .i64 t, .int .i64 ea, .int .i64 eb, .string n1, .string ot]] s.1 fun e w' => e = .returned (.bool (canP p.1 (lf p) (k, t, ea, eb, n1, ot))) ∧ ∃ t : WStep W, w' = t.1 := fun W hW s => by
  have h9 := step_call s (can_any ((hlv.1.step hW).step s.2) (k, t, ea, eb, n1, ot) (okE_ev h3).1.k (by rw [e3]; have := hlb.2.1; omega) (by rw [e3]; have := hlb.2.2; omega))
  rw [e1, e3] at h9
  exact h9
 have hnb : n < a.bks.length := by omega
 have hus : a.used.getD n 0 < (a.bks.getD n (0, [])).2.length := by have := leftA_at hnb; omega
 have CE : Hid (∀ W, Below w.heap.size w W → Calls Tryz.prog 65 #[.pointer (some ⟨R, 0, none⟩), .int .i64 (n : Int), .pointer (some ⟨PB, findA nm a * 20, none⟩), .agg #[.int .i64 k, .int .i64 t, .int .i64 ea, .int .i64 eb, .string n1, .string ot]] W fun en w' => en = .returned (.tuple #[]) ∧ RegN B R vb (putA a n (findA nm a) (k, t, ea, eb, n1, ot)) g (.slice (some ⟨PB, 0, none⟩) g.qs.length cp) W w') := fun W hW => by
  obtain ⟨PB9, cp9, e9, c9⟩ := enter_view (H.out.step hW) HO.out.toOkB hp hnb hus (e := (k, t, ea, eb, n1, ot)) h3 h5
  cases e9
  exact c9
 rw [h5] at CC
 have CC := Lib.hid CC
 have h7 : ¬ (500 : Int) ≤ p.2.length := by omega
 generalize putA a n (findA nm a) (k, t, ea, eb, n1, ot) = a2 at *
 generalize findA nm a = i at *
 generalize p.2.length = L2 at *
 generalize leftA a (n : Int) = L at *
 clear hb h2 h3 h4 hk hp hq e1 e2 e3 e4 hve hlv hcv hlb hbP hPB hnb hus
 have HX := Lib.hid (blk_new w (.cells #[.int .i64 k, .int .i64 t, .int .i64 ea, .int .i64 eb, .string n1, .string ot] 29))
 have HB := Lib.hid (bAl (W := w) (o := (.cells #[.int .i64 k, .int .i64 t, .int .i64 ea, .int .i64 eb, .string n1, .string ot] 29)))
 clear h ho
 go_enter Tryz.func72, Tryz.ntmps72
 go_upto_region 1 with fail
 generalize w.alloc (.cells #[.int .i64 k, .int .i64 t, .int .i64 ea, .int .i64 eb, .string n1, .string ot] 29) = W0 at *
 have x0 := blk_cell (o := 0) HX.out rfl; have x1 := blk_cell (o := 1) HX.out rfl; have x2 := blk_cell (o := 2) HX.out rfl; have x3 := blk_cell (o := 3) HX.out rfl; have x4 := blk_cell (o := 4) HX.out rfl; have x5 := blk_cell (o := 5) HX.out rfl; have xl := blk_lt HX.out; have c10 := cell_step HC.out.1 HB.out; have cR := Nat.lt_of_lt_of_le HC.out.2 HB.out.size
 go_upto_region 15 with ((first | (go_at_call 56; refine (CV.out _ HB.out).mono ?_) | (go_at_call 59; refine (CB.out _ HB.out).mono ?_) | (go_at_call 39; refine (CN.out _).mono ?_) | (go_at_call 42; refine (CK.out _ HB.out).mono ?_) | (go_at_call 57; refine (CF.out _ HB.out).mono ?_) | (go_at_call 17; refine (CL.out _ HB.out).mono ?_)); rintro e w1 ⟨rfl, hbn⟩; have HX9 := Lib.hid (blk_step HX.out hbn); have HB9 := Lib.hid (bStep HB.out hbn); clear HX HB hbn; clear x0 x1 x2 x3 x4 x5 xl c10 cR; have HX := HX9; have HB := HB9; clear HX9 HB9; have x0 := blk_cell (o := 0) HX.out rfl; have x1 := blk_cell (o := 1) HX.out rfl; have x2 := blk_cell (o := 2) HX.out rfl; have x3 := blk_cell (o := 3) HX.out rfl; have x4 := blk_cell (o := 4) HX.out rfl; have x5 := blk_cell (o := 5) HX.out rfl; have xl := blk_lt HX.out; have c10 := cell_step HC.out.1 HB.out; have cR := Nat.lt_of_lt_of_le HC.out.2 HB.out.size)
 have u0 : ∀ s : WStep w1, s.1.cell? ⟨w.heap.size, 0, none⟩ = some (.int .i64 k) := fun s => cell_step (blk_cell HX.out rfl) s.2
 have u1 : ∀ s : WStep w1, s.1.cell? ⟨w.heap.size, 1, none⟩ = some (.int .i64 t) := fun s => cell_step (blk_cell HX.out rfl) s.2
 have u2 : ∀ s : WStep w1, s.1.cell? ⟨w.heap.size, 2, none⟩ = some (.int .i64 ea) := fun s => cell_step (blk_cell HX.out rfl) s.2
 have u3 : ∀ s : WStep w1, s.1.cell? ⟨w.heap.size, 3, none⟩ = some (.int .i64 eb) := fun s => cell_step (blk_cell HX.out rfl) s.2
 have u4 : ∀ s : WStep w1, s.1.cell? ⟨w.heap.size, 4, none⟩ = some (.string n1) := fun s => cell_step (blk_cell HX.out rfl) s.2
 have u5 : ∀ s : WStep w1, s.1.cell? ⟨w.heap.size, 5, none⟩ = some (.string ot) := fun s => cell_step (blk_cell HX.out rfl) s.2
 have ul : ∀ s : WStep w1, w.heap.size < s.1.heap.size := fun s => Nat.lt_of_lt_of_le (blk_lt HX.out) s.2.size
 have CX := Lib.hid (CC.out _ HB.out)
 refine wp_region_lock (by kernel_rfl) (by kernel_rfl) ?_
 repeat (first | (refine WQ.skip rfl rfl rfl rfl ?_; simp only [Act.put, sl1, sl2, sl3, sl4]) | ((first | (apply WQ.val; (exact rfl)) | (apply WQ.valg; (exact rfl); (exact rfl); (exact rfl))); (intro w9 hw9; obtain ⟨s9, rfl⟩ := hw9; simp [go_sem, u0, u1, u2, u3, u4, u5, ul]; first | done | exact rfl | (with_reducible exact CX.out s9)); simp only [Act.put, sl1, sl2, sl3, sl4]))
 refine WQ.fin fun W4 hbn => ?_
 have HX9 := Lib.hid (blk_step HX.out hbn); have HB9 := Lib.hid (bStep HB.out hbn); clear HX HB hbn; clear x0 x1 x2 x3 x4 x5 xl c10 cR; have HX := HX9; have HB := HB9; clear HX9 HB9; have x0 := blk_cell (o := 0) HX.out rfl; have x1 := blk_cell (o := 1) HX.out rfl; have x2 := blk_cell (o := 2) HX.out rfl; have x3 := blk_cell (o := 3) HX.out rfl; have x4 := blk_cell (o := 4) HX.out rfl; have x5 := blk_cell (o := 5) HX.out rfl; have xl := blk_lt HX.out; have c10 := cell_step HC.out.1 HB.out; have cR := Nat.lt_of_lt_of_le HC.out.2 HB.out.size
 clear u0 u1 u2 u3 u4 u5 ul
 have cv := cell_step HCV.out.1 HB.out
 have lv := Nat.lt_of_lt_of_le HCV.out.2 HB.out.size
 go_wp2_with (first | ((first | (go_at_call 56; refine (CV.out _ HB.out).mono ?_) | (go_at_call 59; refine (CB.out _ HB.out).mono ?_) | (go_at_call 39; refine (CN.out _).mono ?_) | (go_at_call 42; refine (CK.out _ HB.out).mono ?_) | (go_at_call 57; refine (CF.out _ HB.out).mono ?_) | (go_at_call 17; refine (CL.out _ HB.out).mono ?_)); rintro e w1 ⟨rfl, hbn⟩; have HX9 := Lib.hid (blk_step HX.out hbn); have HB9 := Lib.hid (bStep HB.out hbn); clear HX HB hbn; clear x0 x1 x2 x3 x4 x5 xl c10 cR; have HX := HX9; have HB := HB9; clear HX9 HB9; have x0 := blk_cell (o := 0) HX.out rfl; have x1 := blk_cell (o := 1) HX.out rfl; have x2 := blk_cell (o := 2) HX.out rfl; have x3 := blk_cell (o := 3) HX.out rfl; have x4 := blk_cell (o := 4) HX.out rfl; have x5 := blk_cell (o := 5) HX.out rfl; have xl := blk_lt HX.out; have c10 := cell_step HC.out.1 HB.out; have cR := Nat.lt_of_lt_of_le HC.out.2 HB.out.size) | (go_at_call 65; refine (CE.out _ HB.out).mono ?_; rintro e w1 ⟨rfl, hN⟩; have HN := Lib.hid (hN.pre HB.out); clear hN))
 exact bodyPost_ret (v := .int .i64 0) (by simp only [results, Tryz.results72]; go_simp) rfl ⟨rfl, HN.out⟩
set_option maxHeartbeats 4000000 in
set_option maxRecDepth 20000 in
theorem Enter_m4 {B R : Nat} {a : RegA} {g : RegS} {vb vp : Value} {w : World} (h : RegV B R vb a g vp w) (ho : OkA a) (hG : Glob0 w) (n : Nat) (nm : ByteArray) (k t ea eb : Int) (n1 ot : ByteArray) (hs : nm.size ≤ 1000000 ∧ n1.size ≤ 1000000 ∧ ot.size ≤ 1000000) (hb : 0 ≤ (n : Int) ∧ (n : Int) < a.bks.length) (h2 : nameB nm = true) (h3 : okE 1 t ea eb n1 ot = true) (h4 : ¬ findA nm a < a.ps.length) (h5 : ¬ 100 ≤ a.ps.length) (h6 : ¬ leftA a (n : Int) < 1) :
  Calls Tryz.prog 72 #[.pointer (some ⟨R, 0, none⟩), .int .i64 (n : Int), .string nm, .agg #[.int .i64 1, .int .i64 t, .int .i64 ea, .int .i64 eb, .string n1, .string ot]] w fun en w' => en = .returned (.int .i64 (enterA a (n : Int) nm (1, t, ea, eb, n1, ot)).1) ∧ RegN B R vb (enterA a (n : Int) nm (1, t, ea, eb, n1, ot)).2 g vp w w' := by
 rw [show enterA a (n : Int) nm (1, t, ea, eb, n1, ot) = (0, putA { a with ps := a.ps ++ [(nm, [])] } n a.ps.length (1, t, ea, eb, n1, ot)) from by rw [enterA_m (e := (1, t, ea, eb, n1, ot)) hb ⟨h2, h3, show (1 : Int) ≠ 5 by decide, show (1 : Int) ≠ 6 by decide⟩ rfl, if_neg h4, if_neg h5, if_neg h6, Int.toNat_natCast]]
 dsimp only
 have hok := h.ok ho.toOkB
 have hbks : g.bks = a.bks := by rw [← h.abs]; rfl
 have hlen := h.len
 have hnp := ho.np
 have hla : leftR g (n : Int) = leftA a (n : Int) := by rw [left_abs, h.abs]
 have H := Lib.hid h
 obtain ⟨pa, cp, hvp⟩ := h.ra.vpS
 subst hvp
 have CV := Lib.hid (fun W (hW : Below w.heap.size w W) => valid_any (h.ra.step hW) hok.pt.1)
 have CB := Lib.hid (fun W (hW : Below w.heap.size w W) => book_any (h.ra.step hW) (n : Int))
 have CN := Lib.hid (fun W => isName_any nm W (by omega))
 have CK := Lib.hid (fun W (hW : Below w.heap.size w W) => Check_any k t ea eb n1 ot W (gstep hG hW) hs.2.1 hs.2.2)
 have CF := Lib.hid (fun W (hW : Below w.heap.size w W) => find_any (h.ra.step hW) nm (by omega))
 have CL := Lib.hid (fun W (hW : Below w.heap.size w W) => Left_any (h.ra.step hW) hok (n : Int))
 rw [hbks] at CB
 rw [hla] at CL
 rw [h.find] at CF
 have HG := Lib.hid hG
 have HO := Lib.hid ho
 have HC := Lib.hid (And.intro h.ra.cells.2.2.1 h.ra.cells.2.2.2.1)
 have HLN := Lib.hid hlen
 have HS := Lib.hid hs
 clear hok hbks hnp hla hG hs hlen
 have hok := H.out.ok HO.out.toOkB
 have hsz := (nameB_size h2).2
 have CD := Lib.hid (fun W BL oL cap a (hb : BL < W.heap.size) hP hQ hA => digest_any 2147483647 3 g.pt BL oL cap a (nm.data.toList.map UInt8.toNat) W (by decide) (by decide) (by have := hok.pt.2; unfold P31 at this; omega) (by decide) (by decide) (byt_of_name nm) (by rw [name_len]; omega) hb hP hQ hA)
 have hBE : dig 2147483647 3 g.pt (nm.data.toList.map UInt8.toNat) = beginE g.pt nm := rfl
 rw [hBE] at CD
 simp only [name_len] at CD
 clear hBE
 rw [decide_eq_true hb] at CB
 rw [h2] at CN
 replace CK := Lib.hid (fun W (hW : Below w.heap.size w W) => Check_any 1 t ea eb n1 ot W (gstep HG.out hW) HS.out.2.1 HS.out.2.2)
 rw [h3] at CK
 simp only [cond_true] at CK
 rw [ptr_no (by have := HLN.out; omega)] at CF
 have h7 : ¬ (100 : Int) ≤ g.qs.length := by have := HLN.out; omega
 have HQL := Lib.hid (show g.qs.length ≤ 100000 by have := HLN.out; have := HO.out.np; omega)
 generalize findA nm a = i at *
 have HL6 : Hid (¬ leftA a (n : Int) < 1) := h6
 generalize hLL : leftA a (n : Int) = L at *
 have HLL := Lib.hid hLL
 have HHH := Lib.hid (And.intro hb (And.intro h2 (And.intro h3 h5)))
 have HPS : Hid (∀ W w2, (fun W => RegAt B R g vb (.slice pa g.qs.length cp) W ∧ Below w.heap.size w W ∧ W.heap[w.heap.size]? = some (.cells #[.int .i64 1, .int .i64 t, .int .i64 ea, .int .i64 eb, .string n1, .string ot] 29 (0, 0))) W → Below W.heap.size W w2 → (fun W => RegAt B R g vb (.slice pa g.qs.length cp) W ∧ Below w.heap.size w W ∧ W.heap[w.heap.size]? = some (.cells #[.int .i64 1, .int .i64 t, .int .i64 ea, .int .i64 eb, .string n1, .string ot] 29 (0, 0))) w2) := fun W w2 hW hb9 => ⟨hW.1.step hb9, bStep hW.2.1 hb9, blk_step hW.2.2 hb9⟩
 clear hb h2 h3 h4 h5 hok hsz hLL
 have HX := Lib.hid (blk_new w (.cells #[.int .i64 1, .int .i64 t, .int .i64 ea, .int .i64 eb, .string n1, .string ot] 29))
 have HB := Lib.hid (bAl (W := w) (o := (.cells #[.int .i64 1, .int .i64 t, .int .i64 ea, .int .i64 eb, .string n1, .string ot] 29)))
 clear h ho
 go_enter Tryz.func72, Tryz.ntmps72
 go_upto_region 1 with fail
 generalize w.alloc (.cells #[.int .i64 1, .int .i64 t, .int .i64 ea, .int .i64 eb, .string n1, .string ot] 29) = W0 at *
 have x0 := blk_cell (o := 0) HX.out rfl; have x1 := blk_cell (o := 1) HX.out rfl; have x2 := blk_cell (o := 2) HX.out rfl; have x3 := blk_cell (o := 3) HX.out rfl; have x4 := blk_cell (o := 4) HX.out rfl; have x5 := blk_cell (o := 5) HX.out rfl; have xl := blk_lt HX.out; have c10 := cell_step HC.out.1 HB.out; have cR := Nat.lt_of_lt_of_le HC.out.2 HB.out.size
 go_upto_region 15 with ((first | (go_at_call 56; refine (CV.out _ HB.out).mono ?_) | (go_at_call 59; refine (CB.out _ HB.out).mono ?_) | (go_at_call 39; refine (CN.out _).mono ?_) | (go_at_call 42; refine (CK.out _ HB.out).mono ?_) | (go_at_call 57; refine (CF.out _ HB.out).mono ?_) | (go_at_call 17; refine (CL.out _ HB.out).mono ?_)); rintro e w1 ⟨rfl, hbn⟩; have HX9 := Lib.hid (blk_step HX.out hbn); have HB9 := Lib.hid (bStep HB.out hbn); clear HX HB hbn; clear x0 x1 x2 x3 x4 x5 xl c10 cR; have HX := HX9; have HB := HB9; clear HX9 HB9; have x0 := blk_cell (o := 0) HX.out rfl; have x1 := blk_cell (o := 1) HX.out rfl; have x2 := blk_cell (o := 2) HX.out rfl; have x3 := blk_cell (o := 3) HX.out rfl; have x4 := blk_cell (o := 4) HX.out rfl; have x5 := blk_cell (o := 5) HX.out rfl; have xl := blk_lt HX.out; have c10 := cell_step HC.out.1 HB.out; have cR := Nat.lt_of_lt_of_le HC.out.2 HB.out.size)
 refine wp_region_lock (by kernel_rfl) (by kernel_rfl) ?_
 repeat (first | (refine WQ.skip rfl rfl rfl rfl ?_; simp only [Act.put, sl1, sl2, sl3, sl4]) | ((first | (apply WQ.val; (exact rfl)) | (apply WQ.valg; (exact rfl); (exact rfl); (exact rfl))); (intro w9 hw9; obtain ⟨s9, rfl⟩ := hw9; simp [go_sem]; first | done | exact rfl); simp only [Act.put, sl1, sl2, sl3, sl4]))
 refine WQ.fin fun W4 hbn => ?_
 have HX9 := Lib.hid (blk_step HX.out hbn); have HB9 := Lib.hid (bStep HB.out hbn); clear HX HB hbn; clear x0 x1 x2 x3 x4 x5 xl c10 cR; have HX := HX9; have HB := HB9; clear HX9 HB9; have x0 := blk_cell (o := 0) HX.out rfl; have x1 := blk_cell (o := 1) HX.out rfl; have x2 := blk_cell (o := 2) HX.out rfl; have x3 := blk_cell (o := 3) HX.out rfl; have x4 := blk_cell (o := 4) HX.out rfl; have x5 := blk_cell (o := 5) HX.out rfl; have xl := blk_lt HX.out; have c10 := cell_step HC.out.1 HB.out; have cR := Nat.lt_of_lt_of_le HC.out.2 HB.out.size
 go_upto_region 22 with ((first | (go_at_call 56; refine (CV.out _ HB.out).mono ?_) | (go_at_call 59; refine (CB.out _ HB.out).mono ?_) | (go_at_call 39; refine (CN.out _).mono ?_) | (go_at_call 42; refine (CK.out _ HB.out).mono ?_) | (go_at_call 57; refine (CF.out _ HB.out).mono ?_) | (go_at_call 17; refine (CL.out _ HB.out).mono ?_)); rintro e w1 ⟨rfl, hbn⟩; have HX9 := Lib.hid (blk_step HX.out hbn); have HB9 := Lib.hid (bStep HB.out hbn); clear HX HB hbn; clear x0 x1 x2 x3 x4 x5 xl c10 cR; have HX := HX9; have HB := HB9; clear HX9 HB9; have x0 := blk_cell (o := 0) HX.out rfl; have x1 := blk_cell (o := 1) HX.out rfl; have x2 := blk_cell (o := 2) HX.out rfl; have x3 := blk_cell (o := 3) HX.out rfl; have x4 := blk_cell (o := 4) HX.out rfl; have x5 := blk_cell (o := 5) HX.out rfl; have xl := blk_lt HX.out; have c10 := cell_step HC.out.1 HB.out; have cR := Nat.lt_of_lt_of_le HC.out.2 HB.out.size)
 refine region_all 22 22 130 [(4, 97), (7, 100), (11, 104), (13, 106), (14, 107), (17, 110), (18, 111), (21, 137)] [(none, []), (none, []), (none, []), (none, []), (some 0, []), (none, []), (none, []), (some 1, []), (none, []), (none, []), (none, []), (some 2, []), (none, []), (some 3, []), (some 4, [1, 2, 3]), (none, [4]), (none, []), (some 5, [4]), (some 6, [0, 5]), (none, []), (none, []), (some 7, [6])] [(93, (.pointer (some ⟨R, 0, none⟩))), (94, (.pointer (some ⟨R, 0, none⟩))), (95, (.pointer (some ⟨R, 0, none⟩))), (96, (.pointer (some ⟨R, 10, none⟩))), (98, (.string nm)), (99, (.agg #[.string nm, .int .i64 0, .int .i64 0, .int .i64 0, .int .i64 0, .int .i64 0, .int .i64 0, .string ⟨#[]⟩, .string ⟨#[]⟩, .slice none 0 0, .slice none 0 0, .int .i64 0, .int .i64 0, .bool false, .int .i64 0, .int .i64 0, .int .i64 0, .bool false])), (101, (.pointer (some ⟨R, 0, none⟩))), (102, (.pointer (some ⟨R, 0, none⟩))), (103, (.pointer (some ⟨R, 0, none⟩))), (105, (.string nm)), (108, (.agg #[(.int .u64 (beginE g.pt nm : Int))])), (109, (.agg #[.string nm, .int .i64 0, .int .i64 0, .int .i64 0, .int .i64 0, .int .i64 0, .int .i64 0, .string ⟨#[]⟩, .string ⟨#[]⟩, .slice none 0 0, .slice none 0 0, .int .i64 0, .int .i64 0, .bool false, .int .i64 0, .int .i64 0, .int .i64 0, .bool false, (.int .u64 (beginE g.pt nm : Int)), .slice none 0 0])), (112, (.pointer (some ⟨R, 0, none⟩))), (113, (.pointer (some ⟨R, 10, none⟩)))] (fun bsE vsE W => PkS (fun W => RegAt B R g vb (.slice pa g.qs.length cp) W ∧ Below w.heap.size w W ∧ W.heap[w.heap.size]? = some (.cells #[.int .i64 1, .int .i64 t, .int .i64 ea, .int .i64 eb, .string n1, .string ot] 29 (0, 0))) (fun W => ∃ vp', RegAt B R ({ g with qs := g.qs ++ [newK nm (beginE g.pt nm)] }) vb vp' W ∧ Moved R g (.slice pa g.qs.length cp) ({ g with qs := g.qs ++ [newK nm (beginE g.pt nm)] }) vp' w W ∧ W.heap[w.heap.size]? = some (.cells #[.int .i64 1, .int .i64 t, .int .i64 ea, .int .i64 eb, .string n1, .string ot] 29 (0, 0))) B (pkC (newK nm (beginE g.pt nm))) nm g.pt (beginE g.pt nm) (.slice pa g.qs.length cp) g.qs.length (flatK g.qs) (bsE.getD 0 false) (bsE.getD 1 false) (bsE.getD 2 false) (bsE.getD 3 false) (bsE.getD 4 false) (bsE.getD 5 false) (bsE.getD 6 false) (bsE.getD 7 false) ((vsE.getD 0 undef)) ((vsE.getD 1 undef)) ((vsE.getD 2 undef)) ((vsE.getD 3 undef)) ((vsE.getD 4 undef)) ((vsE.getD 5 undef)) ((vsE.getD 6 undef)) W) (by kernel_rfl) (by kernel_rfl) rfl rfl (by kernel_rfl) (by rfl) ?h0 ?each ?done
 case h0 =>
  intro vsE hlv
  obtain ⟨v0, v1, v2, v3, v4, v5, v6, v7, rfl⟩ := ll8 hlv
  exact ⟨(fun _ => ⟨H.out.ra.step (HB.out.drew), HB.out.drew, HX.out⟩), (fun e => by cases e), (fun e => by cases e), (fun e => by cases e), (fun e => by cases e), (fun e => by cases e), (fun e => by cases e), (fun e => by cases e), (fun e => by cases e), (fun _ => rfl), (fun _ => rfl), (fun _ => rfl), (fun _ => rfl), (fun _ => rfl), (fun _ => rfl), (fun _ => rfl), Nat.le_trans H.out.ra.base HB.out.size⟩
 case each =>
  simp only [AllE]
  refine ⟨⟨93, (.pointer (some ⟨R, 0, none⟩)), rfl, by kernel_rfl, ?_⟩, ⟨94, (.pointer (some ⟨R, 0, none⟩)), rfl, by kernel_rfl, ?_⟩, ⟨95, (.pointer (some ⟨R, 0, none⟩)), rfl, by kernel_rfl, ?_⟩, ⟨96, (.pointer (some ⟨R, 10, none⟩)), rfl, by kernel_rfl, ?_⟩, Or.inl ⟨97, rfl, ?q1_4⟩, ⟨98, (.string nm), rfl, by kernel_rfl, ?_⟩, ⟨99, (.agg #[.string nm, .int .i64 0, .int .i64 0, .int .i64 0, .int .i64 0, .int .i64 0, .int .i64 0, .string ⟨#[]⟩, .string ⟨#[]⟩, .slice none 0 0, .slice none 0 0, .int .i64 0, .int .i64 0, .bool false, .int .i64 0, .int .i64 0, .int .i64 0, .bool false]), rfl, by kernel_rfl, ?_⟩, Or.inl ⟨100, rfl, ?q1_7⟩, ⟨101, (.pointer (some ⟨R, 0, none⟩)), rfl, by kernel_rfl, ?_⟩, ⟨102, (.pointer (some ⟨R, 0, none⟩)), rfl, by kernel_rfl, ?_⟩, ⟨103, (.pointer (some ⟨R, 0, none⟩)), rfl, by kernel_rfl, ?_⟩, Or.inl ⟨104, rfl, ?q1_11⟩, ⟨105, (.string nm), rfl, by kernel_rfl, ?_⟩, Or.inl ⟨106, rfl, ?q1_13⟩, Or.inl ⟨107, rfl, ?q1_14⟩, ⟨108, (.agg #[(.int .u64 (beginE g.pt nm : Int))]), rfl, by kernel_rfl, ?q1_15⟩, ⟨109, (.agg #[.string nm, .int .i64 0, .int .i64 0, .int .i64 0, .int .i64 0, .int .i64 0, .int .i64 0, .string ⟨#[]⟩, .string ⟨#[]⟩, .slice none 0 0, .slice none 0 0, .int .i64 0, .int .i64 0, .bool false, .int .i64 0, .int .i64 0, .int .i64 0, .bool false, (.int .u64 (beginE g.pt nm : Int)), .slice none 0 0]), rfl, by kernel_rfl, ?_⟩, Or.inl ⟨110, rfl, ?q1_17⟩, Or.inl ⟨111, rfl, ?q1_18⟩, ⟨112, (.pointer (some ⟨R, 0, none⟩)), rfl, by kernel_rfl, ?_⟩, ⟨113, (.pointer (some ⟨R, 10, none⟩)), rfl, by kernel_rfl, ?_⟩, Or.inr ⟨rfl, ?q1_21⟩, trivial⟩
  case q1_4 =>
   intro bsE vsE W hlb hlv hnd hbk h
   obtain ⟨b0, b1, b2, b3, b4, b5, b6, b7, rfl⟩ := ll8 hlb
   obtain ⟨v0, v1, v2, v3, v4, v5, v6, v7, rfl⟩ := ll8 hlv
   obtain rfl : b0 = false := hbk
   replace h : PkS (fun W => RegAt B R g vb (.slice pa g.qs.length cp) W ∧ Below w.heap.size w W ∧ W.heap[w.heap.size]? = some (.cells #[.int .i64 1, .int .i64 t, .int .i64 ea, .int .i64 eb, .string n1, .string ot] 29 (0, 0))) (fun W => ∃ vp', RegAt B R ({ g with qs := g.qs ++ [newK nm (beginE g.pt nm)] }) vb vp' W ∧ Moved R g (.slice pa g.qs.length cp) ({ g with qs := g.qs ++ [newK nm (beginE g.pt nm)] }) vp' w W ∧ W.heap[w.heap.size]? = some (.cells #[.int .i64 1, .int .i64 t, .int .i64 ea, .int .i64 eb, .string n1, .string ot] 29 (0, 0))) B (pkC (newK nm (beginE g.pt nm))) nm g.pt (beginE g.pt nm) (.slice pa g.qs.length cp) g.qs.length (flatK g.qs) false b1 b2 b3 b4 b5 b6 b7 (v0) (v1) (v2) (v3) (v4) (v5) (v6) W := h
   clear hnd
   have HST := Lib.hid h
   obtain rfl := h.n0 rfl; obtain rfl := h.n6 rfl; have c10 := (h.a rfl).1.cells.2.2.1; have cR := (h.a rfl).1.cells.2.2.2.1
   intro K Q hK
   simp only [putE, updAll, Act.put, sl1, sl2, sl3, sl4] at hK ⊢
   go_wp2_with fail
   all_goals (have hm := h.mk0)
   all_goals (first | exact hK _ _ hm | exact hm)
  case q1_7 =>
   intro bsE vsE W hlb hlv hnd hbk h
   obtain ⟨b0, b1, b2, b3, b4, b5, b6, b7, rfl⟩ := ll8 hlb
   obtain ⟨v0, v1, v2, v3, v4, v5, v6, v7, rfl⟩ := ll8 hlv
   obtain rfl : b1 = false := hbk
   replace h : PkS (fun W => RegAt B R g vb (.slice pa g.qs.length cp) W ∧ Below w.heap.size w W ∧ W.heap[w.heap.size]? = some (.cells #[.int .i64 1, .int .i64 t, .int .i64 ea, .int .i64 eb, .string n1, .string ot] 29 (0, 0))) (fun W => ∃ vp', RegAt B R ({ g with qs := g.qs ++ [newK nm (beginE g.pt nm)] }) vb vp' W ∧ Moved R g (.slice pa g.qs.length cp) ({ g with qs := g.qs ++ [newK nm (beginE g.pt nm)] }) vp' w W ∧ W.heap[w.heap.size]? = some (.cells #[.int .i64 1, .int .i64 t, .int .i64 ea, .int .i64 eb, .string n1, .string ot] 29 (0, 0))) B (pkC (newK nm (beginE g.pt nm))) nm g.pt (beginE g.pt nm) (.slice pa g.qs.length cp) g.qs.length (flatK g.qs) b0 false b2 b3 b4 b5 b6 b7 (v0) (v1) (v2) (v3) (v4) (v5) (v6) W := h
   clear hnd
   have HST := Lib.hid h
   obtain rfl := h.n1 rfl; obtain rfl := h.n4 rfl; obtain rfl := h.n5 rfl; obtain rfl := h.n6 rfl
   intro K Q hK
   simp only [putE, updAll, Act.put, sl1, sl2, sl3, sl4] at hK ⊢
   go_wp2_with (go_at_call 40; refine (large_any _).mono ?_; rintro en w9 ⟨BL, oL, rfl, L1, L2, L3, L4, hb9⟩)
   all_goals (have hm := h.mk1 HPS.out hb9 L2 L3 L4)
   all_goals (first | exact hK _ _ hm | exact hm)
  case q1_11 =>
   intro bsE vsE W hlb hlv hnd hbk h
   obtain ⟨b0, b1, b2, b3, b4, b5, b6, b7, rfl⟩ := ll8 hlb
   obtain ⟨v0, v1, v2, v3, v4, v5, v6, v7, rfl⟩ := ll8 hlv
   obtain rfl : b2 = false := hbk
   replace h : PkS (fun W => RegAt B R g vb (.slice pa g.qs.length cp) W ∧ Below w.heap.size w W ∧ W.heap[w.heap.size]? = some (.cells #[.int .i64 1, .int .i64 t, .int .i64 ea, .int .i64 eb, .string n1, .string ot] 29 (0, 0))) (fun W => ∃ vp', RegAt B R ({ g with qs := g.qs ++ [newK nm (beginE g.pt nm)] }) vb vp' W ∧ Moved R g (.slice pa g.qs.length cp) ({ g with qs := g.qs ++ [newK nm (beginE g.pt nm)] }) vp' w W ∧ W.heap[w.heap.size]? = some (.cells #[.int .i64 1, .int .i64 t, .int .i64 ea, .int .i64 eb, .string n1, .string ot] 29 (0, 0))) B (pkC (newK nm (beginE g.pt nm))) nm g.pt (beginE g.pt nm) (.slice pa g.qs.length cp) g.qs.length (flatK g.qs) b0 b1 false b3 b4 b5 b6 b7 (v0) (v1) (v2) (v3) (v4) (v5) (v6) W := h
   clear hnd
   have HST := Lib.hid h
   obtain rfl := h.n2 rfl; obtain rfl := h.n4 rfl; obtain rfl := h.n5 rfl; obtain rfl := h.n6 rfl; have c0 := (h.a rfl).1.cells.1; have cR := (h.a rfl).1.cells.2.2.2.1
   intro K Q hK
   simp only [putE, updAll, Act.put, sl1, sl2, sl3, sl4] at hK ⊢
   go_wp2_with fail
   all_goals (have hm := h.mk2)
   all_goals (first | exact hK _ _ hm | exact hm)
  case q1_13 =>
   intro bsE vsE W hlb hlv hnd hbk h
   obtain ⟨b0, b1, b2, b3, b4, b5, b6, b7, rfl⟩ := ll8 hlb
   obtain ⟨v0, v1, v2, v3, v4, v5, v6, v7, rfl⟩ := ll8 hlv
   obtain rfl : b3 = false := hbk
   replace h : PkS (fun W => RegAt B R g vb (.slice pa g.qs.length cp) W ∧ Below w.heap.size w W ∧ W.heap[w.heap.size]? = some (.cells #[.int .i64 1, .int .i64 t, .int .i64 ea, .int .i64 eb, .string n1, .string ot] 29 (0, 0))) (fun W => ∃ vp', RegAt B R ({ g with qs := g.qs ++ [newK nm (beginE g.pt nm)] }) vb vp' W ∧ Moved R g (.slice pa g.qs.length cp) ({ g with qs := g.qs ++ [newK nm (beginE g.pt nm)] }) vp' w W ∧ W.heap[w.heap.size]? = some (.cells #[.int .i64 1, .int .i64 t, .int .i64 ea, .int .i64 eb, .string n1, .string ot] 29 (0, 0))) B (pkC (newK nm (beginE g.pt nm))) nm g.pt (beginE g.pt nm) (.slice pa g.qs.length cp) g.qs.length (flatK g.qs) b0 b1 b2 false b4 b5 b6 b7 (v0) (v1) (v2) (v3) (v4) (v5) (v6) W := h
   clear hnd
   have HST := Lib.hid h
   obtain rfl := h.n3 rfl; obtain rfl := h.n4 rfl; obtain rfl := h.n5 rfl; obtain rfl := h.n6 rfl; have hconv := run_bytes_of_string (P := Tryz.prog) W 9 88 5 nm Tryz.underlying9 Tryz.underlying88 Tryz.underlying5; have hm := fun cap fr c => h.mk3 HPS.out cap fr c
   intro K Q hK
   simp only [putE, updAll, Act.put, sl1, sl2, sl3, sl4] at hK ⊢
   go_wp2_with fail
   all_goals (first | exact hK _ _ (hm _ _ _) | exact hm _ _ _)
  case q1_14 =>
   intro bsE vsE W hlb hlv hnd hbk h
   obtain ⟨b0, b1, b2, b3, b4, b5, b6, b7, rfl⟩ := ll8 hlb
   obtain ⟨v0, v1, v2, v3, v4, v5, v6, v7, rfl⟩ := ll8 hlv
   obtain rfl : b1 = true := hnd 1 (by simp)
   obtain rfl : b2 = true := hnd 2 (by simp)
   obtain rfl : b3 = true := hnd 3 (by simp)
   obtain rfl : b4 = false := hbk
   replace h : PkS (fun W => RegAt B R g vb (.slice pa g.qs.length cp) W ∧ Below w.heap.size w W ∧ W.heap[w.heap.size]? = some (.cells #[.int .i64 1, .int .i64 t, .int .i64 ea, .int .i64 eb, .string n1, .string ot] 29 (0, 0))) (fun W => ∃ vp', RegAt B R ({ g with qs := g.qs ++ [newK nm (beginE g.pt nm)] }) vb vp' W ∧ Moved R g (.slice pa g.qs.length cp) ({ g with qs := g.qs ++ [newK nm (beginE g.pt nm)] }) vp' w W ∧ W.heap[w.heap.size]? = some (.cells #[.int .i64 1, .int .i64 t, .int .i64 ea, .int .i64 eb, .string n1, .string ot] 29 (0, 0))) B (pkC (newK nm (beginE g.pt nm))) nm g.pt (beginE g.pt nm) (.slice pa g.qs.length cp) g.qs.length (flatK g.qs) b0 true true true false b5 b6 b7 (v0) (v1) (v2) (v3) (v4) (v5) (v6) W := h
   clear hnd
   have HST := Lib.hid h
   obtain rfl := h.n4 rfl; obtain rfl := h.n5 rfl; obtain rfl := h.n6 rfl; obtain ⟨BL, oL, e1, l1, l2, l3⟩ := h.r1 rfl rfl; subst e1; obtain rfl := h.r2 rfl; obtain ⟨p9, c9, e9, hby⟩ := h.r3 rfl rfl; subst e9
   intro K Q hK
   simp only [putE, updAll, Act.put, sl1, sl2, sl3, sl4] at hK ⊢
   go_wp2_with (go_at_call 41; refine (CD.out _ _ _ _ _ l1 l2 l3 hby).mono ?_; rintro en w9 ⟨rfl, hb9⟩)
   all_goals (have hm := h.mk4 HPS.out hb9)
   all_goals (first | exact hK _ _ hm | exact hm)
  case q1_15 =>
   intro bsE vsE W hlb hlv hnd h
   obtain ⟨b0, b1, b2, b3, b4, b5, b6, b7, rfl⟩ := ll8 hlb
   obtain ⟨v0, v1, v2, v3, v4, v5, v6, v7, rfl⟩ := ll8 hlv
   obtain rfl : b4 = true := hnd 4 (by simp)
   replace h : PkS (fun W => RegAt B R g vb (.slice pa g.qs.length cp) W ∧ Below w.heap.size w W ∧ W.heap[w.heap.size]? = some (.cells #[.int .i64 1, .int .i64 t, .int .i64 ea, .int .i64 eb, .string n1, .string ot] 29 (0, 0))) (fun W => ∃ vp', RegAt B R ({ g with qs := g.qs ++ [newK nm (beginE g.pt nm)] }) vb vp' W ∧ Moved R g (.slice pa g.qs.length cp) ({ g with qs := g.qs ++ [newK nm (beginE g.pt nm)] }) vp' w W ∧ W.heap[w.heap.size]? = some (.cells #[.int .i64 1, .int .i64 t, .int .i64 ea, .int .i64 eb, .string n1, .string ot] 29 (0, 0))) B (pkC (newK nm (beginE g.pt nm))) nm g.pt (beginE g.pt nm) (.slice pa g.qs.length cp) g.qs.length (flatK g.qs) b0 b1 b2 b3 true b5 b6 b7 (v0) (v1) (v2) (v3) (v4) (v5) (v6) W := h
   clear hnd
   have HST := Lib.hid h
   obtain rfl := h.r4 rfl
   intro K Q hK
   simp only [putE, updAll, Act.put, sl1, sl2, sl3, sl4] at hK ⊢
   go_wp2_with (fail)
   all_goals (first | exact hK _ h | exact h)
  case q1_17 =>
   intro bsE vsE W hlb hlv hnd hbk h
   obtain ⟨b0, b1, b2, b3, b4, b5, b6, b7, rfl⟩ := ll8 hlb
   obtain ⟨v0, v1, v2, v3, v4, v5, v6, v7, rfl⟩ := ll8 hlv
   obtain rfl : b4 = true := hnd 4 (by simp)
   obtain rfl : b5 = false := hbk
   replace h : PkS (fun W => RegAt B R g vb (.slice pa g.qs.length cp) W ∧ Below w.heap.size w W ∧ W.heap[w.heap.size]? = some (.cells #[.int .i64 1, .int .i64 t, .int .i64 ea, .int .i64 eb, .string n1, .string ot] 29 (0, 0))) (fun W => ∃ vp', RegAt B R ({ g with qs := g.qs ++ [newK nm (beginE g.pt nm)] }) vb vp' W ∧ Moved R g (.slice pa g.qs.length cp) ({ g with qs := g.qs ++ [newK nm (beginE g.pt nm)] }) vp' w W ∧ W.heap[w.heap.size]? = some (.cells #[.int .i64 1, .int .i64 t, .int .i64 ea, .int .i64 eb, .string n1, .string ot] 29 (0, 0))) B (pkC (newK nm (beginE g.pt nm))) nm g.pt (beginE g.pt nm) (.slice pa g.qs.length cp) g.qs.length (flatK g.qs) b0 b1 b2 b3 true false b6 b7 (v0) (v1) (v2) (v3) (v4) (v5) (v6) W := h
   clear hnd
   have HST := Lib.hid h
   obtain rfl := h.n5 rfl; obtain rfl := h.n6 rfl; have hm := h.mk5 HPS.out
   intro K Q hK
   simp only [putE, updAll, Act.put, sl1, sl2, sl3, sl4] at hK ⊢
   go_wp2_with fail
   all_goals (first | exact hK _ _ hm | exact hm)
  case q1_18 =>
   intro bsE vsE W hlb hlv hnd hbk h
   obtain ⟨b0, b1, b2, b3, b4, b5, b6, b7, rfl⟩ := ll8 hlb
   obtain ⟨v0, v1, v2, v3, v4, v5, v6, v7, rfl⟩ := ll8 hlv
   obtain rfl : b0 = true := hnd 0 (by simp)
   obtain rfl : b5 = true := hnd 5 (by simp)
   obtain rfl : b6 = false := hbk
   replace h : PkS (fun W => RegAt B R g vb (.slice pa g.qs.length cp) W ∧ Below w.heap.size w W ∧ W.heap[w.heap.size]? = some (.cells #[.int .i64 1, .int .i64 t, .int .i64 ea, .int .i64 eb, .string n1, .string ot] 29 (0, 0))) (fun W => ∃ vp', RegAt B R ({ g with qs := g.qs ++ [newK nm (beginE g.pt nm)] }) vb vp' W ∧ Moved R g (.slice pa g.qs.length cp) ({ g with qs := g.qs ++ [newK nm (beginE g.pt nm)] }) vp' w W ∧ W.heap[w.heap.size]? = some (.cells #[.int .i64 1, .int .i64 t, .int .i64 ea, .int .i64 eb, .string n1, .string ot] 29 (0, 0))) B (pkC (newK nm (beginE g.pt nm))) nm g.pt (beginE g.pt nm) (.slice pa g.qs.length cp) g.qs.length (flatK g.qs) true b1 b2 b3 b4 true false b7 (v0) (v1) (v2) (v3) (v4) (v5) (v6) W := h
   clear hnd
   have HST := Lib.hid h
   obtain rfl := h.n6 rfl
   intro K Q hK
   simp only [putE, updAll, Act.put, sl1, sl2, sl3, sl4] at hK ⊢
   exact h.app (fun W hW => hW.1.row) HQL.out (pkC_len _) (pkC_one _ _) (.tmp 97) (.tmp 110) rfl rfl rfl hK
  case q1_21 =>
   intro bsE vsE W hlb hlv hnd hbk h
   obtain ⟨b0, b1, b2, b3, b4, b5, b6, b7, rfl⟩ := ll8 hlb
   obtain ⟨v0, v1, v2, v3, v4, v5, v6, v7, rfl⟩ := ll8 hlv
   obtain rfl : b6 = true := hnd 6 (by simp)
   obtain rfl : b7 = false := hbk
   replace h : PkS (fun W => RegAt B R g vb (.slice pa g.qs.length cp) W ∧ Below w.heap.size w W ∧ W.heap[w.heap.size]? = some (.cells #[.int .i64 1, .int .i64 t, .int .i64 ea, .int .i64 eb, .string n1, .string ot] 29 (0, 0))) (fun W => ∃ vp', RegAt B R ({ g with qs := g.qs ++ [newK nm (beginE g.pt nm)] }) vb vp' W ∧ Moved R g (.slice pa g.qs.length cp) ({ g with qs := g.qs ++ [newK nm (beginE g.pt nm)] }) vp' w W ∧ W.heap[w.heap.size]? = some (.cells #[.int .i64 1, .int .i64 t, .int .i64 ea, .int .i64 eb, .string n1, .string ot] 29 (0, 0))) B (pkC (newK nm (beginE g.pt nm))) nm g.pt (beginE g.pt nm) (.slice pa g.qs.length cp) g.qs.length (flatK g.qs) b0 b1 b2 b3 b4 b5 true false (v0) (v1) (v2) (v3) (v4) (v5) (v6) W := h
   clear hnd
   have HST := Lib.hid h
   obtain ⟨Wb, ⟨p1, pB, pE⟩, p2, p3, p4⟩ := h.m rfl rfl; obtain ⟨a9, c9, e9⟩ := row_slice p4; subst e9; obtain ⟨c, f, lB, r1, r2, r3⟩ := addPk_all p1 pB pE p2 p3 p4; have hN0 : PkS (fun W => RegAt B R g vb (.slice pa g.qs.length cp) W ∧ Below w.heap.size w W ∧ W.heap[w.heap.size]? = some (.cells #[.int .i64 1, .int .i64 t, .int .i64 ea, .int .i64 eb, .string n1, .string ot] 29 (0, 0))) (fun W => ∃ vp', RegAt B R ({ g with qs := g.qs ++ [newK nm (beginE g.pt nm)] }) vb vp' W ∧ Moved R g (.slice pa g.qs.length cp) ({ g with qs := g.qs ++ [newK nm (beginE g.pt nm)] }) vp' w W ∧ W.heap[w.heap.size]? = some (.cells #[.int .i64 1, .int .i64 t, .int .i64 ea, .int .i64 eb, .string n1, .string ot] 29 (0, 0))) B (pkC (newK nm (beginE g.pt nm))) nm g.pt (beginE g.pt nm) (.slice pa g.qs.length cp) g.qs.length (flatK g.qs) b0 b1 b2 b3 b4 b5 true true (v0) (v1) (v2) (v3) (v4) (v5) ((.slice a9 (g.qs.length + 1) c9)) (W.setCell ⟨R, 10, none⟩ (.slice a9 (g.qs.length + 1) c9)) := ⟨(fun e => by cases e), (fun _ e => by cases e), (fun _ => ⟨_, r1, r2, r3⟩), h.r0, (fun _ e2 => by have e3 := h.n4 e2; have e4 := h.n5 e3; cases e4), h.r2, (fun _ e2 => by have e3 := h.n4 e2; have e4 := h.n5 e3; cases e4), h.r4, (fun _ e => by cases e), h.n0, h.n1, h.n2, h.n3, h.n4, h.n5, (fun e => by cases e), by simpa using h.hb⟩; clear p1 pB pE p2 p3 p4 r1 r2 r3
   intro K Q hK
   simp only [putE, updAll, Act.put, sl1, sl2, sl3, sl4] at hK ⊢
   go_wp2_with fail
   all_goals (first | exact hK _ hN0 | exact hN0)
  all_goals
   intro bsE vsE W hlb hlv hnd h
   obtain ⟨b0, b1, b2, b3, b4, b5, b6, b7, rfl⟩ := ll8 hlb
   obtain ⟨v0, v1, v2, v3, v4, v5, v6, v7, rfl⟩ := ll8 hlv
   replace h : PkS (fun W => RegAt B R g vb (.slice pa g.qs.length cp) W ∧ Below w.heap.size w W ∧ W.heap[w.heap.size]? = some (.cells #[.int .i64 1, .int .i64 t, .int .i64 ea, .int .i64 eb, .string n1, .string ot] 29 (0, 0))) (fun W => ∃ vp', RegAt B R ({ g with qs := g.qs ++ [newK nm (beginE g.pt nm)] }) vb vp' W ∧ Moved R g (.slice pa g.qs.length cp) ({ g with qs := g.qs ++ [newK nm (beginE g.pt nm)] }) vp' w W ∧ W.heap[w.heap.size]? = some (.cells #[.int .i64 1, .int .i64 t, .int .i64 ea, .int .i64 eb, .string n1, .string ot] 29 (0, 0))) B (pkC (newK nm (beginE g.pt nm))) nm g.pt (beginE g.pt nm) (.slice pa g.qs.length cp) g.qs.length (flatK g.qs) b0 b1 b2 b3 b4 b5 b6 b7 (v0) (v1) (v2) (v3) (v4) (v5) (v6) W := h
   clear hnd
   have HST := Lib.hid h
   skip
   intro K Q hK
   simp only [putE, updAll, Act.put, sl1, sl2, sl3, sl4] at hK ⊢
   go_wp2_with (fail)
   all_goals (first | exact hK _ h | exact h)
 case done =>
  intro vsE W hlv h
  obtain ⟨v0, v1, v2, v3, v4, v5, v6, v7, rfl⟩ := ll8 hlv
  replace h : PkS (fun W => RegAt B R g vb (.slice pa g.qs.length cp) W ∧ Below w.heap.size w W ∧ W.heap[w.heap.size]? = some (.cells #[.int .i64 1, .int .i64 t, .int .i64 ea, .int .i64 eb, .string n1, .string ot] 29 (0, 0))) (fun W => ∃ vp', RegAt B R ({ g with qs := g.qs ++ [newK nm (beginE g.pt nm)] }) vb vp' W ∧ Moved R g (.slice pa g.qs.length cp) ({ g with qs := g.qs ++ [newK nm (beginE g.pt nm)] }) vp' w W ∧ W.heap[w.heap.size]? = some (.cells #[.int .i64 1, .int .i64 t, .int .i64 ea, .int .i64 eb, .string n1, .string ot] 29 (0, 0))) B (pkC (newK nm (beginE g.pt nm))) nm g.pt (beginE g.pt nm) (.slice pa g.qs.length cp) g.qs.length (flatK g.qs) true true true true true true true true (v0) (v1) (v2) (v3) (v4) (v5) (v6) W := h
  have HST := Lib.hid h
  have HZ := Lib.hid (h.z rfl)
  clear h HST
  simp only [putE, updAll, Act.put, sl1, sl2, sl3, sl4]
  obtain ⟨vp', hr2, hM2, hE2⟩ := HZ.out
  have hnb : n < a.bks.length := by have := HHH.out.1; omega
  have hus : a.used.getD n 0 < (a.bks.getD n (0, [])).2.length := by have h1 := leftA_at hnb; have h2 := HL6.out; have h3 := HLL.out; omega
  obtain ⟨PB2, cp2, M, evp2, hM, hCE⟩ := enter_new H.out HO.out HHH.out.2.1 (by have := HHH.out.2.2.2; omega) hnb hus (1, t, ea, eb, n1, ot) rfl HHH.out.2.2.1 hr2
  subst evp2
  have c10 := hr2.cells.2.2.1
  have cR := hr2.cells.2.2.2.1
  have hw : IntKind.i64.wrap ((M : Int) - 1) = (g.qs.length : Int) := by have h1 := HQL.out; rw [hM]; rw [show ((g.qs.length + 1 : Nat) : Int) - 1 = (g.qs.length : Int) by omega]; exact Go.IntWalk.i64_in _ ⟨by omega, by omega⟩
  have g0 : (0 : Int) ≤ g.qs.length := by omega
  have g1 : (g.qs.length : Int) < M := by omega
  have HE2 := Lib.hid hE2
  have HM2 := Lib.hid hM2
  have CE := Lib.hid hCE
  have x0 := blk_cell (o := 0) hE2 rfl; have x1 := blk_cell (o := 1) hE2 rfl; have x2 := blk_cell (o := 2) hE2 rfl; have x3 := blk_cell (o := 3) hE2 rfl; have x4 := blk_cell (o := 4) hE2 rfl; have x5 := blk_cell (o := 5) hE2 rfl; have xl := blk_lt hE2
  clear HZ hr2 hM2 hE2 hCE hM hnb hus
  go_upto_region 23 with fail
  go_quiet (fail)
  go_wp2_with (go_at_call 65; refine (CE.out _ (by repeat' (first | exact Below.refl _ _ | assumption | apply bDrewN | apply bDrew | apply bAlloc | (refine bSet ?_ ?_ _) | (refine bStep ?_ (by assumption)) | omega | (simp <;> omega)))).mono ?_; rintro e w1 ⟨rfl, hN⟩; have HN := Lib.hid (RegN.pre (w := W) (by repeat' (first | exact Below.refl _ _ | assumption | apply bDrewN | apply bDrew | apply bAlloc | (refine bSet ?_ ?_ _) | (refine bStep ?_ (by assumption)) | omega | (simp <;> omega))) hN); clear hN)
  exact bodyPost_ret (v := .int .i64 0) (by simp only [results, Tryz.results72]; go_simp) rfl ⟨rfl, HN.out.after HM2.out⟩
theorem Enter_any {B R : Nat} {a : RegA} {g : RegS} {vb vp : Value} {w : World} (h : RegV B R vb a g vp w) (ho : OkA a) (hG : Glob0 w) (b : Int) (nm : ByteArray) (e : Evt) (hs : nm.size ≤ 1000000 ∧ e.2.2.2.2.1.size ≤ 1000000 ∧ e.2.2.2.2.2.size ≤ 1000000) :
  Calls Tryz.prog 72 #[.pointer (some ⟨R, 0, none⟩), .int .i64 b, .string nm, evX e] w fun en w' => en = .returned (.int .i64 (enterA a b nm e).1) ∧ RegN B R vb (enterA a b nm e).2 g vp w w' := by
 obtain ⟨k, t, ea, eb, n1, ot⟩ := e
 by_cases hb : 0 ≤ b ∧ b < a.bks.length
 ·cases h2 : nameB nm with
  | false => exact Enter_2 h ho hG b nm k t ea eb n1 ot hs hb h2
  | true =>
   cases h3 : okE k t ea eb n1 ot with
   | false => exact Enter_3 h ho hG b nm k t ea eb n1 ot hs hb h2 h3
   | true =>
    obtain ⟨n, rfl⟩ := Int.eq_ofNat_of_zero_le hb.1
    by_cases k5 : k = 5
    ·subst k5; exact Enter_4 h ho hG n nm 0 t ea eb n1 ot hs hb h2 h3
    ·by_cases k6 : k = 6
     ·subst k6; exact Enter_5 h ho hG n nm 0 t ea eb n1 ot hs hb h2 h3
     ·by_cases k1 : k = 1
      ·subst k1
       by_cases h4 : findA nm a < a.ps.length
       ·exact Enter_m1 h ho hG n nm 0 t ea eb n1 ot hs hb h2 h3 h4
       ·by_cases h5 : 100 ≤ a.ps.length
        ·exact Enter_m2 h ho hG n nm 0 t ea eb n1 ot hs hb h2 h3 h4 h5
        ·by_cases h6 : leftA a (n : Int) < 1
         ·exact Enter_m3 h ho hG n nm 0 t ea eb n1 ot hs hb h2 h3 h4 h5 h6
         ·exact Enter_m4 h ho hG n nm 0 t ea eb n1 ot hs hb h2 h3 h4 h5 h6
      ·cases hp : a.ps[findA nm a]? with
       | none => exact Enter_n1 h ho hG n nm k t ea eb n1 ot hs hb h2 h3 ⟨k1, k5, k6⟩ (by have := List.getElem?_eq_none_iff.1 hp; omega)
       | some p =>
        cases h5 : canP p.1 (lf p) (k, t, ea, eb, n1, ot) with
        | false => exact Enter_n2 h ho hG n nm k t ea eb n1 ot hs hb h2 h3 ⟨k1, k5, k6⟩ p hp h5
        | true =>
         by_cases h6 : 500 ≤ p.2.length
         ·exact Enter_n3 h ho hG n nm k t ea eb n1 ot hs hb h2 h3 ⟨k1, k5, k6⟩ p hp h5 h6
         ·by_cases h8 : leftA a (n : Int) < 1
          ·exact Enter_n4 h ho hG n nm k t ea eb n1 ot hs hb h2 h3 ⟨k1, k5, k6⟩ p hp h5 h6 h8
          ·exact Enter_n5 h ho hG n nm k t ea eb n1 ot hs hb h2 h3 ⟨k1, k5, k6⟩ p hp h5 h6 h8
 ·exact Enter_1 h ho hG b nm k t ea eb n1 ot hs hb
end Go.Proofs.YtmpilgkfbibhlaaGreatDoor
