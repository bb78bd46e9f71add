/-
 Equality of pairs and entries, by hand.
-/
import Derived.Test.YtmpilgkfbibhlaaGreatDoorG0Y
import Derived.Laws.StructEq
import Derived.KernelRfl
import Derived.Deep.QuietTactic
import Derived.Test.YtmpilgkfbibhlaaGreatDoorG1Y
import Derived.Test.YtmpilgkfbibhlaaGreatDoorG3Y
import Derived.Deep.Cut
set_option linter.unusedSimpArgs false
set_option linter.unusedVariables false
namespace Go.Proofs.YtmpilgkfbibhlaaGreatDoor
open Sx Go.RowKit
theorem pr_run (x y t1 t2 : Int) (W : World) : (Op.equalIn 10000 101 (.agg #[.int .i64 x, .int .i64 y]) (.agg #[.int .i64 t1, .int .i64 t2])).run Tryz.prog W = .ok ((x == t1) && (y == t2)) W := by
 have u3 := Tryz.underlying3
 have a3 := Tryz.isAgg3
 have z3 := Tryz.sizeOf3
 rw [show (10000 : Nat) = 9999 + 1 from rfl, Op.equalIn]
 simp only [Sem.run_bind, run_underlying Tryz.underlying101, Result.andThen_ok]
 simp only [Std.Legacy.Range.forIn_eq_forIn_range', Std.Legacy.Range.size, Nat.sub_zero, Nat.add_sub_cancel, Nat.div_one, List.range'_succ, List.range'_zero, List.forIn_cons, List.forIn_nil]
 go_simp
 by_cases h1 : x = t1 <;> by_cases h2 : y = t2 <;> simp [h1, h2]
theorem ent_runL (k t a b : Int) (nm ot : ByteArray) (by_ pad head tag : Int) (k' t' a' b' : Int) (nm' ot' : ByteArray) (by' pad' head' tag' : Int) (W : World) : (Op.equalIn 10000 31 (.agg #[.int .i64 k, .int .i64 t, .int .i64 a, .int .i64 b, .string nm, .string ot, .int .i64 by_, .int .i64 pad, .int .u64 head, .int .u64 tag])
  (.agg #[.int .i64 k', .int .i64 t', .int .i64 a', .int .i64 b', .string nm', .string ot', .int .i64 by', .int .i64 pad', .int .u64 head', .int .u64 tag'])).run Tryz.prog W = .ok (((k == k') && ((t == t') && ((a == a') && ((b == b') && ((nm == nm') && (ot == ot')))))) && ((by_ == by') && ((pad == pad') && ((head == head') && (tag == tag'))))) W := by
 have u3 := Tryz.underlying3
 have a3 := Tryz.isAgg3
 have z3 := Tryz.sizeOf3
 have u4 := Tryz.underlying22
 have a4 := Tryz.isAgg22
 have z4 := Tryz.sizeOf22
 have a5 := Tryz.isAgg29
 have z5 := Tryz.sizeOf29
 have hS : Tryz.prog.underlying 31 = some (.struct (Tryz.prog.fieldsOf 31)) := by kernel_rfl
 rw [show (10000 : Nat) = 9999 + 1 from rfl, run_equalIn_agg W 9999 31 _ _ hS (by kernel_rfl)]
 simp only [Program.fieldsOf, Tryz.underlying31]
 have u5 := Tryz.underlying9
 have u6 := Tryz.underlying2
 rw [beq_toListBytes nm, beq_toListBytes ot]
 go_simp
 by_cases h1 : k = k' <;> (try (simp [h1]; done))
 by_cases h2 : t = t' <;> (try (simp [h1, h2]; done))
 by_cases h3 : a = a' <;> (try (simp [h1, h2, h3]; done))
 by_cases h4 : b = b' <;> (try (simp [h1, h2, h3, h4]; done))
 by_cases h5 : nm.toList = nm'.toList <;> (try (simp [h5]; done))
 by_cases h6 : ot.toList = ot'.toList <;> (try (simp [h6]; done))
 by_cases h7 : by_ = by' <;> (try (simp [h7]; done))
 by_cases h8 : pad = pad' <;> (try (simp [h8]; done))
 by_cases h9 : head = head' <;> (try (simp [h9]; done))
 by_cases h10 : tag = tag' <;> simp [h1, h2, h3, h4, h5, h6, h7, h8, h9, h10]
end Go.Proofs.YtmpilgkfbibhlaaGreatDoor
namespace Go.Proofs.YtmpilgkfbibhlaaGreatDoor
open Sx Go.RowKit
theorem prguard : Tryz.prog.eqGuardType Tryz.prog.depth 101 = false := by kernel_rfl
theorem quiet_preql {o : Oper} {a : Act} {C : World → Prop} {next : Act → Prop} (x1 y1 x2 y2 : Int) (x y : Operand) (u : TypeId) (ho : o.op = .binOp .eql 101 x y u) (hx : a.eval x = .agg #[.int .i64 x1, .int .i64 y1]) (hy : a.eval y = .agg #[.int .i64 x2, .int .i64 y2])
  {b : Bool} (hb : ((x1 == x2) && (y1 == y2)) = b) (h : next (a.put o.dst (.bool b))) : o.quiet Tryz.prog a C next := by
 subst hb
 refine ⟨.bool ((x1 == x2) && (y1 == y2)), fun w _ => ?_, h⟩
 unfold Oper.quietAt execOp
 simp only [ho, hx, hy, Sem.run_bind, Sem.run_pure, run_eqGuard_agg _ _ _ _ _ _ _ prguard, Result.andThen_ok, run_eql_struct, pr_run x1 y1 x2 y2 w]
 exact ⟨rfl, rfl⟩
end Go.Proofs.YtmpilgkfbibhlaaGreatDoor
namespace Go.Proofs.YtmpilgkfbibhlaaGreatDoor
open Go.RowKit
def PrAt (a : Option Addr) (ps : List (Int × Int)) (W : World) : Prop := ps ≠ [] → ∃ b off, a = some ⟨b, off, none⟩ ∧ b < W.heap.size ∧ ∀ (k : Nat) (p : Int × Int), ps[k]? = some p → W.cell? ⟨b, off + k * 2, none⟩ = some (.int .i64 p.1) ∧ W.cell? ⟨b, off + k * 2 + 1, none⟩ = some (.int .i64 p.2)
theorem PrAt.step {a : Option Addr} {ps : List (Int × Int)} {W w2 : World} (h : PrAt a ps W) (hb : Below W.heap.size W w2) : PrAt a ps w2 := by
 intro hn
 obtain ⟨b, off, e1, e2, e3⟩ := h hn
 exact ⟨b, off, e1, Nat.lt_of_lt_of_le e2 hb.size, fun k p hk => ⟨cell_step (e3 k p hk).1 hb, cell_step (e3 k p hk).2 hb⟩⟩
def prHas (ps : List (Int × Int)) (x y : Int) : Bool := ps.any fun p => x == p.1 && y == p.2
theorem prHas_take {l : List (Int × Int)} {i : Nat} {t : Int × Int} {x y : Int} (h : prHas (l.take i) x y = false) (hk : l[i]? = some t) (hb : (x == t.1 && y == t.2) = false) : prHas (l.take (i + 1)) x y = false := by
 unfold prHas at *
 rw [List.take_add_one, hk, List.any_append, h]
 simpa using hb
set_option maxHeartbeats 2000000 in
theorem idxPr_any {a : Option Addr} {l : List (Int × Int)} {w : World} (c : Nat) (h : PrAt a l w) (hl : l.length ≤ 1000000) (x y : Int) : Calls Tryz.prog 104 #[.slice a l.length c, .agg #[.int .i64 x, .int .i64 y]] w fun e w' => ∃ i : Int, e = .returned (.int .i64 i) ∧ (decide (i ≥ 0) = prHas l x y) ∧ Below w.heap.size w w' := by
 have HB := Lib.hid (Mr.bAl (W := w) (o := .cells #[.int .i64 x, .int .i64 y] 101))
 have H := Lib.hid (h.step HB.out)
 have HX := Lib.hid (blk_new w (.cells #[.int .i64 x, .int .i64 y] 101))
 clear h
 go_enter Tryz.func104, Tryz.ntmps104
 go_wp2_with fail
 generalize (w.alloc _) = w0 at *
 go_loopw [8] (fun ix wr => ∃ i : Nat, i ≤ l.length ∧ ix = .int .i64 i ∧ Hid (prHas (l.take i) x y = false) ∧ Hid (Below w0.heap.size w0 wr)) (fun ix _ => l.length - (intOf ix).toNat)
 case atStart => exact ⟨0, by omega, rfl, rfl, Below.refl _ _⟩
 case round =>
  obtain ⟨i, hi, rfl, HT, HW⟩ := hrel
  have HX2 := blk_step HX.out HW.out
  have x0 := blk_cell (o := 0) HX2 rfl
  have x1 := blk_cell (o := 1) HX2 rfl
  have xl := blk_lt HX2
  clear HX2
  by_cases hc : i < l.length
  ·have c1 : (i : Int) < l.length := by omega
   have c0 : (0 : Int) ≤ i := by omega
   obtain ⟨t, hk⟩ : ∃ t, l[i]? = some t := ⟨l[i], List.getElem?_eq_getElem hc⟩
   obtain ⟨b, off, rfl, hb0, hcs⟩ := H.out (by rintro rfl; simp at hc)
   have g0 := cell_step (hcs i t hk).1 HW.out
   have g1 := cell_step (hcs i t hk).2 HW.out
   have HKK := Lib.hid hk
   obtain ⟨t1, t2⟩ := t
   dsimp only at g0 g1
   clear hcs hk hc
   by_cases he : (x == t1 && y == t2) = true
   ·have HR : Hid (prHas l x y = true) := List.any_eq_true.2 ⟨(t1, t2), List.mem_of_getElem? HKK.out, he⟩
    have HEE := Lib.hid he
    clear he
    go_upto_region 4 with fail
    have HWW := Lib.hid HW.out
    have y0 := fun s : WStep wr => cell_step x0 s.2
    have y1 := fun s : WStep wr => cell_step x1 s.2
    have k0 := fun s : WStep wr => cell_step g0 s.2
    have k1 := fun s : WStep wr => cell_step g1 s.2
    clear x0 x1 g0 g1
    refine wp_region_step (by kernel_rfl) (by kernel_rfl) ?_
    repeat (quiet_step (fail))
    refine wpQuiet_step (fun K hK => ?_)
    rw [if_pos (by rfl)]
    refine quiet_preql x y t1 t2 (.tmp 11) (.tmp 15) _ rfl rfl rfl HEE.out ?_
    refine hK _ ?_
    clear hK K
    refine wpQuiet_nil ?_
    intro W4 hw'
    obtain ⟨⟨W4', hW4⟩, hw''⟩ := hw'
    dsimp only at hw''
    subst hw''
    have HW4 := Lib.hid (bStep HWW.out hW4)
    clear y0 y1 k0 k1 hW4
    go_wp2_with fail
    exact bodyPost_ret (v := .int .i64 (i : Int)) (by simp only [results, Tryz.results104]; go_simp) rfl ⟨i, rfl, by rw [HR.out]; exact decide_eq_true (by omega), bStep HB.out HW4.out⟩
   ·have he2 : (x == t1 && y == t2) = false := by simpa using he
    have HE := Lib.hid (prHas_take HT.out HKK.out he2)
    have HEE := Lib.hid he2
    clear he he2
    go_upto_region 4 with fail
    have HWW := Lib.hid HW.out
    have y0 := fun s : WStep wr => cell_step x0 s.2
    have y1 := fun s : WStep wr => cell_step x1 s.2
    have k0 := fun s : WStep wr => cell_step g0 s.2
    have k1 := fun s : WStep wr => cell_step g1 s.2
    clear x0 x1 g0 g1
    refine wp_region_step (by kernel_rfl) (by kernel_rfl) ?_
    repeat (quiet_step (fail))
    refine wpQuiet_step (fun K hK => ?_)
    rw [if_pos (by rfl)]
    refine quiet_preql x y t1 t2 (.tmp 11) (.tmp 15) _ rfl rfl rfl HEE.out ?_
    refine hK _ ?_
    clear hK K
    refine wpQuiet_nil ?_
    intro W4 hw'
    obtain ⟨⟨W4', hW4⟩, hw''⟩ := hw'
    dsimp only at hw''
    subst hw''
    have HW4 := Lib.hid (bStep HWW.out hW4)
    clear y0 y1 k0 k1 hW4
    go_wp2_with fail
    exact ⟨⟨i + 1, by omega, by push_cast; rfl, HE, HW4⟩, by simp [intOf]; omega⟩
  ·obtain rfl : i = l.length := by omega
   have HR : Hid (prHas l x y = false) := by have q := HT.out; rw [List.take_of_length_le (Nat.le_refl _)] at q; exact q
   clear hc
   go_wp2_with fail
   exact bodyPost_ret (v := .int .i64 (-1)) (by simp only [results, Tryz.results104]; go_simp) rfl ⟨-1, rfl, by rw [HR.out]; rfl, bStep HB.out HW.out⟩
set_option maxHeartbeats 1000000 in
theorem hasPr_any {a : Option Addr} {l : List (Int × Int)} {w : World} (c : Nat) (h : PrAt a l w) (hl : l.length ≤ 1000000) (x y : Int) : Calls Tryz.prog 44 #[.slice a l.length c, .agg #[.int .i64 x, .int .i64 y]] w fun e w' => e = .returned (.bool (prHas l x y)) ∧ Below w.heap.size w w' := by
 have HB := Lib.hid (Mr.bAl (W := w) (o := .cells #[.int .i64 x, .int .i64 y] 101))
 have CI := Lib.hid (idxPr_any c (h.step HB.out) hl x y)
 clear h hl
 generalize prHas l x y = r at *
 generalize l.length = n at *
 go_enter Tryz.func44, Tryz.ntmps44
 go_wp2_with (go_at_call 104; refine CI.out.mono ?_; rintro e w1 ⟨i, rfl, hi, hb1⟩; have HI := Lib.hid hi; clear hi)
 exact bodyPost_ret (v := .bool (decide (i ≥ 0))) (by simp only [results, Tryz.results44]; go_simp) rfl ⟨by rw [HI.out], bStep HB.out hb1⟩
end Go.Proofs.YtmpilgkfbibhlaaGreatDoor
