/-
 raw: the bytes of an event.
-/
import Derived.Test.YtmpilgkfbibhlaaGreatDoorG15R
import Derived.Test.YtmpilgkfbibhlaaGreatDoorG14R
set_option linter.unusedSimpArgs false
set_option linter.unusedVariables false
namespace Go.Proofs.YtmpilgkfbibhlaaGreatDoor
open Sx Go.RowKit
def byC (l : List Nat) : List Value := l.map fun n : Nat => Value.int .u8 (n : Int)
theorem byC_one (l : List Nat) : ∀ v ∈ byC l, v.oneCell' = true := fun v hv => by
 obtain ⟨n, _, rfl⟩ := List.mem_map.1 hv; rfl
theorem byC_app (l m : List Nat) : byC (l ++ m) = byC l ++ byC m := by simp [byC]
theorem wb_any (B b : Nat) (l : List Nat) (c : Nat) (w : World) (h : Lib.IsBuffer 210 5 B b (byC l) w) (hB : B ≤ w.heap.size) (hl : l.length ≤ 1000000) :
  Calls Tryz.prog 136 #[.pointer (some ⟨b, 0, none⟩), .int .u8 (c : Nat)] w fun e w' => e = .returned .nilIface ∧ Lib.IsBuffer 210 5 B b (byC (l ++ [c])) w' ∧ Below B w w' := by
 have h2 := Any.Buffer_WriteByte laysM179 B b (byC l) (c : Int) w h hB (byC_one l) (by simp [byC]; omega)
 rw [byC_app]
 exact h2
theorem ws_any (B b : Nat) (l : List Nat) (s : ByteArray) (w : World) (h : Lib.IsBuffer 210 5 B b (byC l) w) (hB : B ≤ w.heap.size) (hl : l.length ≤ 1000000) (hs : s.size ≤ 1000000) :
  Calls Tryz.prog 137 #[.pointer (some ⟨b, 0, none⟩), .string s] w fun e w' => e = .returned (.tuple #[.int .i64 s.size, .nilIface]) ∧ Lib.IsBuffer 210 5 B b (byC (l ++ s.data.toList.map UInt8.toNat)) w' ∧ Below B w w' := by
 have h2 := Any.Buffer_WriteString laysM178 B b (byC l) s w h hB (byC_one l) (by simp [byC]; omega)
 rw [byC_app]
 have e : byC (s.data.toList.map UInt8.toNat) = Lib.byteCells s.data.toList := by simp [byC, Lib.byteCells]
 rw [e]
 exact h2
end Go.Proofs.YtmpilgkfbibhlaaGreatDoor
namespace Go.Proofs.YtmpilgkfbibhlaaGreatDoor
open Sx Go.RowKit
theorem idx3 (x y z : Int) (W : World) (j : Nat) (hj : j < 3) : (Instr.index 212 (.agg #[.int .i64 x, .int .i64 y, .int .i64 z]) (.int .i64 (j : Int))).run Tryz.prog W = .ok (.int .i64 ([x, y, z].getD j 0)) W := by
 have hu := Tryz.underlying212
 have hc : Tryz.prog.cellsOf 2 = 1 := by kernel_rfl
 have h3 : j = 0 ∨ j = 1 ∨ j = 2 := by omega
 rcases h3 with rfl | rfl | rfl
 all_goals
  simp only [Instr.index, Sem.run_bind, asIntOf, Sem.run_pure, Result.andThen_ok, run_underlying hu]
  simp
  simp only [part, Sem.run_bind, run_isAgg_plain Tryz.underlying2 rfl, Result.andThen_ok]
  rfl
theorem idx2 (x y : ByteArray) (W : World) (j : Nat) (hj : j < 2) : (Instr.index 213 (.agg #[.string x, .string y]) (.int .i64 (j : Int))).run Tryz.prog W = .ok (.string ([x, y].getD j ⟨#[]⟩)) W := by
 have hu := Tryz.underlying213
 have hc : Tryz.prog.cellsOf 9 = 1 := by kernel_rfl
 have h3 : j = 0 ∨ j = 1 := by omega
 rcases h3 with rfl | rfl
 all_goals
  simp only [Instr.index, Sem.run_bind, asIntOf, Sem.run_pure, Result.andThen_ok, run_underlying hu]
  simp
  simp only [part, Sem.run_bind, run_isAgg_plain Tryz.underlying9 rfl, Result.andThen_ok]
  rfl
end Go.Proofs.YtmpilgkfbibhlaaGreatDoor
namespace Go.Proofs.YtmpilgkfbibhlaaGreatDoor
open Sx Go.RowKit
def bq (n q : Nat) : List Nat := (List.range q).map fun i => n / 2 ^ (56 - 8 * i) % 256
theorem bq_more (n q : Nat) : bq n (q + 1) = bq n q ++ [n / 2 ^ (56 - 8 * q) % 256] := by unfold bq; rw [List.range_succ]; simp
theorem bq_all (n : Nat) : bq n 8 = b8 n := by simp [bq, b8, List.range_succ]
theorem bq_len (n q : Nat) : (bq n q).length = q := by simp [bq]
theorem wb_at (B b n q : Nat) : Hid (∀ (l : List Nat) (W : World), Lib.IsBuffer 210 5 B b (byC l) W → B ≤ W.heap.size → l.length ≤ 1000000 →
  Calls Tryz.prog 136 #[.pointer (some ⟨b, 0, none⟩), .int .u8 ((n : Int) / 2 ^ (56 - 8 * q) % 256)] W fun e w' => e = .returned .nilIface ∧ Lib.IsBuffer 210 5 B b (byC (l ++ [n / 2 ^ (56 - 8 * q) % 256])) w' ∧ Below B W w') := fun l W h hB hl => by
 have h2 := wb_any B b l (n / 2 ^ (56 - 8 * q) % 256) W h hB hl
 have e : ((n / 2 ^ (56 - 8 * q) % 256 : Nat) : Int) = (n : Int) / 2 ^ (56 - 8 * q) % 256 := by rw [Int.natCast_emod, Int.natCast_ediv, Int.natCast_pow]; rfl
 rw [e] at h2
 exact h2
def EvMem (B : Nat) (t a b : Int) (nm ot : ByteArray) (W : World) : Prop := W.cell? ⟨B, 1, none⟩ = some (.int .i64 t) ∧ W.cell? ⟨B, 2, none⟩ = some (.int .i64 a) ∧ W.cell? ⟨B, 3, none⟩ = some (.int .i64 b) ∧ W.cell? ⟨B, 4, none⟩ = some (.string nm) ∧ W.cell? ⟨B, 5, none⟩ = some (.string ot)
theorem EvMem.step {B : Nat} {t a b : Int} {nm ot : ByteArray} {W w2 : World} (h : EvMem B t a b nm ot W) (hb : Below (B + 1) W w2) : EvMem B t a b nm ot w2 := by
 obtain ⟨h1, h2, h3, h4, h5⟩ := h
 have q : ∀ o, w2.cell? ⟨B, o, none⟩ = W.cell? ⟨B, o, none⟩ := fun o => hb.cell (p := ⟨B, o, none⟩) (by show B < B + 1; omega)
 exact ⟨(q _).trans h1, (q _).trans h2, (q _).trans h3, (q _).trans h4, (q _).trans h5⟩
set_option maxHeartbeats 1000000 in
set_option maxRecDepth 20000 in
theorem raw_any (k t a b : Nat) (nm ot : ByteArray) (w : World) (hk : 1 ≤ k ∧ k ≤ 9) (ht : t ≤ 1099511627776) (ha : a ≤ 1099511627776) (hb : b ≤ 1099511627776) (hs1 : nm.size ≤ 100) (hs2 : ot.size ≤ 100) :
  Calls Tryz.prog 105 #[.agg #[.int .i64 k, .int .i64 t, .int .i64 a, .int .i64 b, .string nm, .string ot]] w fun e w' => ∃ v, e = .returned v ∧ w'.ownsRow (w.heap.size + 1) 5 1 v (byC (k :: (([t, a, b].take 3).map b8).flatten ++ (([nm, ot].take 2).map fun s => s.size :: s.data.toList.map UInt8.toNat).flatten)).length (byC (k :: (([t, a, b].take 3).map b8).flatten ++ (([nm, ot].take 2).map fun s => s.size :: s.data.toList.map UInt8.toNat).flatten)) ∧ Below w.heap.size w w' := by
 have hsz : (w.alloc (.cells #[.int .i64 k, .int .i64 t, .int .i64 a, .int .i64 b, .string nm, .string ot] 29)).heap.size = w.heap.size + 1 := by simp
 have hI := Lib.fresh_isBuffer 210 5 (w.alloc (.cells #[.int .i64 k, .int .i64 t, .int .i64 a, .int .i64 b, .string nm, .string ot] 29))
 rw [hsz] at hI
 have hE : EvMem w.heap.size t a b nm ot ((w.alloc (.cells #[.int .i64 k, .int .i64 t, .int .i64 a, .int .i64 b, .string nm, .string ot] 29)).alloc (.cells #[.slice none 0 0, .int .i64 0, .int .i8 0] 210)) := by
  unfold EvMem; refine ⟨?_, ?_, ?_, ?_, ?_⟩ <;> go_simp
 have HI := Lib.hid hI
 have HE := Lib.hid hE
 clear hI hE hsz
 go_enter Tryz.func105, Tryz.ntmps105
 go_wp2_with (go_at_call 136; refine (wb_any _ _ [] _ _ HI.out (by simp) (by simp)).mono ?_; rintro e w1 ⟨rfl, hI1, hb1⟩; obtain ⟨f1, f2, f3, f4, f5⟩ := HE.out.step hb1; have HI1 := Lib.hid hI1; have KW := Lib.hid ((bAlloc (bAlloc (Below.refl w.heap.size w) _) _).trans (hb1.mono (show w.heap.size ≤ w.heap.size + 1 by omega))); clear hI1)
 go_loopw [20, 5, 6, 23] (fun i _ _ _ wr => ∃ j : Nat, j ≤ 3 ∧ i = .int .i64 j ∧ Hid (Lib.IsBuffer 210 5 (w.heap.size + 1) (w.heap.size + 1) (byC (k :: (([t, a, b].take j).map b8).flatten)) wr) ∧ Below (w.heap.size + 1) w1 wr) (fun i _ _ _ _ => 3 - (intOf i).toNat)
 case atStart => exact ⟨0, by omega, rfl, HI1, Below.refl _ _⟩
 case round =>
  obtain ⟨j, hj, rfl, HB, kB⟩ := hrel
  by_cases hlt : j < 3
  ·have hix := idx3 t a b wr j hlt
   obtain ⟨n, hn, hn2⟩ : ∃ n : Nat, ([(t : Int), a, b].getD j 0) = n ∧ n ≤ 1099511627776 := by
    have : j = 0 ∨ j = 1 ∨ j = 2 := by omega
    rcases this with rfl | rfl | rfl
    ·exact ⟨t, rfl, ht⟩
    ·exact ⟨a, rfl, ha⟩
    ·exact ⟨b, rfl, hb⟩
   rw [hn] at hix
   have HN := Lib.hid hn
   clear hn
   have hj3 : (j : Int) < 3 := by omega
   go_wp2_with fail
   have hPl : Hid ((k :: (([t, a, b].take j).map b8).flatten).length ≤ 100) := by
    have : j = 0 ∨ j = 1 ∨ j = 2 := by omega
    rcases this with rfl | rfl | rfl <;> simp [Hid, b8]
   have hnx : Hid (k :: (([t, a, b].take (j + 1)).map b8).flatten = k :: (([t, a, b].take j).map b8).flatten ++ b8 n) := by
    have : j = 0 ∨ j = 1 ∨ j = 2 := by omega
    have h2 := HN.out
    rcases this with rfl | rfl | rfl <;> simp [Hid] at h2 ⊢ <;> first | rw [show t = n by omega] | rw [show a = n by omega] | rw [show b = n by omega]
   generalize k :: (([t, a, b].take j).map b8).flatten = P at *
   have hsz : w.heap.size + 1 ≤ wr.heap.size := by have := HB.out.lt; omega
   go_loopw [6, 23] (fun _ i w2 => ∃ q : Nat, q ≤ 8 ∧ i = .int .i64 q ∧ Hid (Lib.IsBuffer 210 5 (w.heap.size + 1) (w.heap.size + 1) (byC (P ++ bq n q)) w2) ∧ Below (w.heap.size + 1) wr w2) (fun _ i _ => 8 - (intOf i).toNat)
   case atStart => exact ⟨0, by omega, rfl, by simpa [bq] using HB, Below.refl _ _⟩
   case round =>
    obtain ⟨q, hq, rfl, HQ, kQ⟩ := hrel
    by_cases hq2 : q < 8
    ·have hq3 : (q : Int) < 8 := by omega
     have CW := wb_at (w.heap.size + 1) (w.heap.size + 1) n q
     have hl : (P ++ bq n q).length ≤ 1000000 := by have := hPl.out; rw [List.length_append, bq_len]; omega
     have hs2 := Nat.le_of_lt HQ.out.lt
     go_wp2_with (go_at_call 136; refine (CW.out _ _ HQ.out hs2 hl).mono ?_; rintro e w1 ⟨rfl, hI2, hb2⟩)
     exact ⟨⟨q + 1, by omega, by push_cast; rfl, by rw [bq_more, ← List.append_assoc]; exact hI2, kQ.trans hb2⟩, by simp [intOf]; omega⟩
    ·obtain rfl : q = 8 := by omega
     rw [show ((8 : Nat) : Int) = 8 from rfl]
     have HQ2 := Lib.hid HQ.out
     rw [bq_all] at HQ2
     go_wp2_with fail
     exact ⟨⟨j + 1, by omega, by push_cast; rfl, by rw [hnx.out]; exact HQ2.out, kB.trans kQ⟩, by simp [intOf]; omega⟩
  ·obtain rfl : j = 3 := by omega
   rw [show ((3 : Nat) : Int) = 3 from rfl]
   have hE3 := (HE.out.step hb1).step kB
   obtain ⟨-, -, -, f8, f9⟩ := hE3
   go_wp2_with fail
   have hPl : Hid ((k :: (([t, a, b].take 3).map b8).flatten).length ≤ 100) := by simp [Hid, b8]
   generalize hP : k :: (([t, a, b].take 3).map b8).flatten = P at *
   have HP := Lib.hid hP
   clear hP
   go_loopw [40, 8] (fun i _ w2 => ∃ j : Nat, j ≤ 2 ∧ i = .int .i64 j ∧ Hid (Lib.IsBuffer 210 5 (w.heap.size + 1) (w.heap.size + 1) (byC (P ++ (([nm, ot].take j).map fun s => s.size :: s.data.toList.map UInt8.toNat).flatten)) w2) ∧ Below (w.heap.size + 1) wr w2) (fun i _ _ => 2 - (intOf i).toNat)
   case atStart => exact ⟨0, by omega, rfl, by simpa using HB, Below.refl _ _⟩
   case round =>
    obtain ⟨j, hj, rfl, HQ, kQ⟩ := hrel
    by_cases hj2 : j < 2
    ·have hix := idx2 nm ot wr j hj2
     have hj3 : (j : Int) < 2 := by omega
     obtain ⟨s, hn, hn2⟩ : ∃ s : ByteArray, ([nm, ot].getD j ⟨#[]⟩) = s ∧ s.size ≤ 100 := by
      have : j = 0 ∨ j = 1 := by omega
      rcases this with rfl | rfl
      ·exact ⟨nm, rfl, hs1⟩
      ·exact ⟨ot, rfl, hs2⟩
     rw [hn] at hix
     have HN := Lib.hid hn
     clear hn
     have hz := Lib.size_eq nm
     have hl : Hid ((P ++ (([nm, ot].take j).map fun s => s.size :: s.data.toList.map UInt8.toNat).flatten).length ≤ 1000) := by
      have h0 := hPl.out
      have : j = 0 ∨ j = 1 := by omega
      unfold Hid
      rcases this with rfl | rfl <;> simp <;> omega
     have hnx : Hid (P ++ (([nm, ot].take (j + 1)).map fun s => s.size :: s.data.toList.map UInt8.toNat).flatten = P ++ (([nm, ot].take j).map fun s => s.size :: s.data.toList.map UInt8.toNat).flatten ++ [s.size] ++ s.data.toList.map UInt8.toNat) := by
      have h2 := HN.out
      have : j = 0 ∨ j = 1 := by omega
      rcases this with rfl | rfl <;> simp [Hid] at h2 ⊢ <;> subst h2 <;> simp
     generalize P ++ (([nm, ot].take j).map fun s => s.size :: s.data.toList.map UInt8.toNat).flatten = Q at *
     have hl1 : Q.length ≤ 1000000 := by have := hl.out; omega
     have hl2 : (Q ++ [s.size]).length ≤ 1000000 := by have := hl.out; simp; omega
     go_wp2_with (first
      | (go_at_call 136; refine (wb_any _ _ Q s.size _ HQ.out (Nat.le_of_lt HQ.out.lt) hl1).mono ?_; rintro e w2 ⟨rfl, hI2, hb2⟩)
      | (go_at_call 137; refine (ws_any _ _ _ s _ hI2 (Nat.le_of_lt hI2.lt) hl2 (by omega)).mono ?_; rintro e w3 ⟨rfl, hI3, hb3⟩))
     exact ⟨⟨j + 1, by omega, by push_cast; rfl, by rw [hnx.out]; exact hI3, (kQ.trans hb2).trans hb3⟩, by simp [intOf]; omega⟩
    ·obtain rfl : j = 2 := by omega
     rw [show ((2 : Nat) : Int) = 2 from rfl]
     go_wp2_with (go_at_call 138; refine (Any.Buffer_Bytes laysM183 _ _ _ _ HQ.out).mono ?_; rintro e w4 ⟨v, rfl, hv, n4, rfl⟩)
     go_ret
     have hP := HP.out
     subst hP
     exact ⟨v, rfl, hv, by repeat' (first | exact (KW.out.trans (kB.mono (by omega))).trans (kQ.mono (by omega)) | apply bDrewN | apply bDrew)⟩
end Go.Proofs.YtmpilgkfbibhlaaGreatDoor
