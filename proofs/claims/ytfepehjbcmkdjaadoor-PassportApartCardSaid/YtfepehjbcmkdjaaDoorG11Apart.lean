/-
  The bytes of events tell them apart: the plain law.
-/
import Derived.Test.YtfepehjbcmkdjaaDoorG10Apart
import Derived.Test.YtfepehjbcmkdjaaDoorG2Apart
import Derived.Laws.IdiomStrings
import Derived.Laws.BytesArg
set_option linter.unusedSimpArgs false
set_option linter.unusedVariables false
namespace Go.Proofs.YtfepehjbcmkdjaaDoor
def b8 (n : Nat) : List Nat := [n / 72057594037927936 % 256, n / 281474976710656 % 256, n / 1099511627776 % 256, n / 4294967296 % 256, n / 16777216 % 256, n / 65536 % 256, n / 256 % 256, n % 256]
theorem b8_inj {m n : Nat} (hm : m ≤ 1099511627776) (hn : n ≤ 1099511627776) (h : b8 m = b8 n) : m = n := by
  unfold b8 at h
  simp only [List.cons.injEq, and_true] at h
  obtain ⟨-, -, h3, h4, h5, h6, h7, h8⟩ := h
  omega
/-- The bytes of an event. -/
def bytesE (e : Ev) : List Nat := e.k.toNat :: (b8 e.t.toNat ++ (b8 e.a.toNat ++ (b8 e.b.toNat ++ (e.nm.length :: (e.nm.map UInt8.toNat ++ (e.ot.length :: e.ot.map UInt8.toNat))))))
theorem names_inj {a b : List UInt8} (h : a.map UInt8.toNat = b.map UInt8.toNat) : a = b := by
  have h2 := congrArg (List.map UInt8.ofNat) h
  simp only [List.map_map] at h2
  have e : ∀ l : List UInt8, l.map (UInt8.ofNat ∘ UInt8.toNat) = l := fun l => by
    conv => rhs; rw [← List.map_id l]
    exact List.map_congr_left fun x _ => by simp
  rwa [e, e] at h2
theorem bytes_inj {e f : Ev} (he : EvOk e) (hf : EvOk f) (h : bytesE e = bytesE f) : e = f := by
  obtain ⟨k, t, a, b, nm, ot⟩ := e
  obtain ⟨k', t', a', b', nm', ot'⟩ := f
  have k1 := he.k; have k2 := hf.k; have t1 := he.t; have t2 := hf.t; have a1 := he.a; have a2 := hf.a; have b1 := he.b; have b2 := hf.b
  dsimp only at k1 k2 t1 t2 a1 a2 b1 b2
  unfold bytesE at h
  dsimp only at h
  simp only [List.cons.injEq] at h
  obtain ⟨h1, h⟩ := h
  obtain ⟨h2, h⟩ := List.append_inj h rfl
  obtain ⟨h3, h⟩ := List.append_inj h rfl
  obtain ⟨h4, h⟩ := List.append_inj h rfl
  simp only [List.cons.injEq] at h
  obtain ⟨h5, h⟩ := h
  obtain ⟨h6, h⟩ := List.append_inj h (by simpa using h5)
  simp only [List.cons.injEq] at h
  obtain ⟨-, h7⟩ := h
  have e1 : k = k' := by omega
  have e2 : t = t' := by have := b8_inj (by omega) (by omega) h2; omega
  have e3 : a = a' := by have := b8_inj (by omega) (by omega) h3; omega
  have e4 : b = b' := by have := b8_inj (by omega) (by omega) h4; omega
  rw [e1, e2, e3, e4, names_inj h6, names_inj h7]
end Go.Proofs.YtfepehjbcmkdjaaDoor

/-
  raw: the bytes of an event.
-/
set_option linter.unusedSimpArgs false
set_option linter.unusedVariables false
namespace Go.Proofs.YtfepehjbcmkdjaaDoor
open Sx Go.RowKit
def byC (l : List Nat) : List Value := l.map fun n : Nat => Value.int .u8 (n : Int)
theorem byC_one (l : List Nat) : ∀ v ∈ byC l, v.oneCell' = true := fun v hv => by
  obtain ⟨n, _, rfl⟩ := List.mem_map.1 hv; rfl
theorem byC_app (l m : List Nat) : byC (l ++ m) = byC l ++ byC m := by simp [byC]
theorem wb_any (B b : Nat) (l : List Nat) (c : Nat) (w : World) (h : Lib.IsBuffer 72 5 B b (byC l) w) (hB : B ≤ w.heap.size) (hl : l.length ≤ 1000000) :
    Calls Tryd.prog 35 #[.pointer (some ⟨b, 0, none⟩), .int .u8 (c : Nat)] w fun e w' => e = .returned .nilIface ∧ Lib.IsBuffer 72 5 B b (byC (l ++ [c])) w' ∧ Below B w w' := by
  have h2 := Any.Buffer_WriteByte laysM179 B b (byC l) (c : Int) w h hB (byC_one l) (by simp [byC]; omega)
  rw [byC_app]
  exact h2
theorem ws_any (B b : Nat) (l : List Nat) (s : ByteArray) (w : World) (h : Lib.IsBuffer 72 5 B b (byC l) w) (hB : B ≤ w.heap.size) (hl : l.length ≤ 1000000) (hs : s.size ≤ 1000000) :
    Calls Tryd.prog 36 #[.pointer (some ⟨b, 0, none⟩), .string s] w fun e w' => e = .returned (.tuple #[.int .i64 s.size, .nilIface]) ∧ Lib.IsBuffer 72 5 B b (byC (l ++ s.data.toList.map UInt8.toNat)) w' ∧ Below B w w' := by
  have h2 := Any.Buffer_WriteString laysM178 B b (byC l) s w h hB (byC_one l) (by simp [byC]; omega)
  rw [byC_app]
  have e : byC (s.data.toList.map UInt8.toNat) = Lib.byteCells s.data.toList := by simp [byC, Lib.byteCells]
  rw [e]
  exact h2
end Go.Proofs.YtfepehjbcmkdjaaDoor

/-
  An array value at an index.
-/
set_option linter.unusedSimpArgs false
set_option linter.unusedVariables false
namespace Go.Proofs.YtfepehjbcmkdjaaDoor
open Sx Go.RowKit
theorem idx3 (x y z : Int) (W : World) (j : Nat) (hj : j < 3) : (Instr.index 76 (.agg #[.int .i64 x, .int .i64 y, .int .i64 z]) (.int .i64 (j : Int))).run Tryd.prog W = .ok (.int .i64 ([x, y, z].getD j 0)) W := by
  have hu := Tryd.underlying76
  have hc : Tryd.prog.cellsOf 2 = 1 := by kernel_rfl
  have h3 : j = 0 ∨ j = 1 ∨ j = 2 := by omega
  rcases h3 with rfl | rfl | rfl
  all_goals
    simp only [Instr.index, Sem.run_bind, asIntOf, Sem.run_pure, Result.andThen_ok, run_underlying hu]
    simp
    simp only [part, Sem.run_bind, run_isAgg_plain Tryd.underlying2 rfl, Result.andThen_ok]
    rfl
theorem idx2 (x y : ByteArray) (W : World) (j : Nat) (hj : j < 2) : (Instr.index 77 (.agg #[.string x, .string y]) (.int .i64 (j : Int))).run Tryd.prog W = .ok (.string ([x, y].getD j ⟨#[]⟩)) W := by
  have hu := Tryd.underlying77
  have hc : Tryd.prog.cellsOf 9 = 1 := by kernel_rfl
  have h3 : j = 0 ∨ j = 1 := by omega
  rcases h3 with rfl | rfl
  all_goals
    simp only [Instr.index, Sem.run_bind, asIntOf, Sem.run_pure, Result.andThen_ok, run_underlying hu]
    simp
    simp only [part, Sem.run_bind, run_isAgg_plain Tryd.underlying9 rfl, Result.andThen_ok]
    rfl
end Go.Proofs.YtfepehjbcmkdjaaDoor

/-
  raw: the walk (begun).
-/
set_option linter.unusedSimpArgs false
set_option linter.unusedVariables false
namespace Go.Proofs.YtfepehjbcmkdjaaDoor
open Sx Go.RowKit
/-- The first q bytes of a number. -/
def bq (n q : Nat) : List Nat := (List.range q).map fun i => n / 2 ^ (56 - 8 * i) % 256
theorem bq_more (n q : Nat) : bq n (q + 1) = bq n q ++ [n / 2 ^ (56 - 8 * q) % 256] := by unfold bq; rw [List.range_succ]; simp
theorem bq_all (n : Nat) : bq n 8 = b8 n := by simp [bq, b8, List.range_succ]
theorem bq_len (n q : Nat) : (bq n q).length = q := by simp [bq]
theorem wb_at (B b n q : Nat) : Hid (∀ (l : List Nat) (W : World), Lib.IsBuffer 72 5 B b (byC l) W → B ≤ W.heap.size → l.length ≤ 1000000 →
    Calls Tryd.prog 35 #[.pointer (some ⟨b, 0, none⟩), .int .u8 ((n : Int) / 2 ^ (56 - 8 * q) % 256)] W fun e w' => e = .returned .nilIface ∧ Lib.IsBuffer 72 5 B b (byC (l ++ [n / 2 ^ (56 - 8 * q) % 256])) w' ∧ Below B W w') := fun l W h hB hl => by
  have h2 := wb_any B b l (n / 2 ^ (56 - 8 * q) % 256) W h hB hl
  have e : ((n / 2 ^ (56 - 8 * q) % 256 : Nat) : Int) = (n : Int) / 2 ^ (56 - 8 * q) % 256 := by rw [Int.natCast_emod, Int.natCast_ediv, Int.natCast_pow]; rfl
  rw [e] at h2
  exact h2
/-- The event's cells. -/
def EvMem (B : Nat) (t a b : Int) (nm ot : ByteArray) (W : World) : Prop := W.cell? ⟨B, 1, none⟩ = some (.int .i64 t) ∧ W.cell? ⟨B, 2, none⟩ = some (.int .i64 a) ∧ W.cell? ⟨B, 3, none⟩ = some (.int .i64 b) ∧ W.cell? ⟨B, 4, none⟩ = some (.string nm) ∧ W.cell? ⟨B, 5, none⟩ = some (.string ot)
theorem EvMem.step {B : Nat} {t a b : Int} {nm ot : ByteArray} {W w2 : World} (h : EvMem B t a b nm ot W) (hb : Below (B + 1) W w2) : EvMem B t a b nm ot w2 := by
  obtain ⟨h1, h2, h3, h4, h5⟩ := h
  have q : ∀ o, w2.cell? ⟨B, o, none⟩ = W.cell? ⟨B, o, none⟩ := fun o => hb.cell (p := ⟨B, o, none⟩) (by show B < B + 1; omega)
  exact ⟨(q _).trans h1, (q _).trans h2, (q _).trans h3, (q _).trans h4, (q _).trans h5⟩
set_option maxHeartbeats 1000000 in
set_option maxRecDepth 20000 in
theorem raw_any (k t a b : Nat) (nm ot : ByteArray) (w : World) (hk : 1 ≤ k ∧ k ≤ 9) (ht : t ≤ 1099511627776) (ha : a ≤ 1099511627776) (hb : b ≤ 1099511627776) (hs1 : nm.size ≤ 100) (hs2 : ot.size ≤ 100) :
    Calls Tryd.prog 27 #[.agg #[.int .i64 k, .int .i64 t, .int .i64 a, .int .i64 b, .string nm, .string ot]] w fun e w' => ∃ v, e = .returned v ∧ w'.ownsRow (w.heap.size + 1) 5 1 v (byC (k :: (([t, a, b].take 3).map b8).flatten ++ (([nm, ot].take 2).map fun s => s.size :: s.data.toList.map UInt8.toNat).flatten)).length (byC (k :: (([t, a, b].take 3).map b8).flatten ++ (([nm, ot].take 2).map fun s => s.size :: s.data.toList.map UInt8.toNat).flatten)) ∧ Below w.heap.size w w' := by
  have hsz : (w.alloc (.cells #[.int .i64 k, .int .i64 t, .int .i64 a, .int .i64 b, .string nm, .string ot] 37)).heap.size = w.heap.size + 1 := by simp
  have hI := Lib.fresh_isBuffer 72 5 (w.alloc (.cells #[.int .i64 k, .int .i64 t, .int .i64 a, .int .i64 b, .string nm, .string ot] 37))
  rw [hsz] at hI
  have hE : EvMem w.heap.size t a b nm ot ((w.alloc (.cells #[.int .i64 k, .int .i64 t, .int .i64 a, .int .i64 b, .string nm, .string ot] 37)).alloc (.cells #[.slice none 0 0, .int .i64 0, .int .i8 0] 72)) := by
    unfold EvMem; refine ⟨?_, ?_, ?_, ?_, ?_⟩ <;> go_simp
  have HI := Lib.hid hI
  have HE := Lib.hid hE
  clear hI hE hsz
  go_enter Tryd.func27, Tryd.ntmps27
  go_wp2_with (go_at_call 35; refine (wb_any _ _ [] _ _ HI.out (by simp) (by simp)).mono ?_; rintro e w1 ⟨rfl, hI1, hb1⟩; obtain ⟨f1, f2, f3, f4, f5⟩ := HE.out.step hb1; have HI1 := Lib.hid hI1; have KW := Lib.hid ((bAlloc (bAlloc (Below.refl w.heap.size w) _) _).trans (hb1.mono (show w.heap.size ≤ w.heap.size + 1 by omega))); clear hI1)
  go_loopw [20, 5, 6, 23] (fun i _ _ _ wr => ∃ j : Nat, j ≤ 3 ∧ i = .int .i64 j ∧ Hid (Lib.IsBuffer 72 5 (w.heap.size + 1) (w.heap.size + 1) (byC (k :: (([t, a, b].take j).map b8).flatten)) wr) ∧ Below (w.heap.size + 1) w1 wr) (fun i _ _ _ _ => 3 - (intOf i).toNat)
  case atStart => exact ⟨0, by omega, rfl, HI1, Below.refl _ _⟩
  case round =>
    obtain ⟨j, hj, rfl, HB, kB⟩ := hrel
    by_cases hlt : j < 3
    · have hix := idx3 t a b wr j hlt
      obtain ⟨n, hn, hn2⟩ : ∃ n : Nat, ([(t : Int), a, b].getD j 0) = n ∧ n ≤ 1099511627776 := by
        have : j = 0 ∨ j = 1 ∨ j = 2 := by omega
        rcases this with rfl | rfl | rfl
        · exact ⟨t, rfl, ht⟩
        · exact ⟨a, rfl, ha⟩
        · exact ⟨b, rfl, hb⟩
      rw [hn] at hix
      have HN := Lib.hid hn
      clear hn
      have hj3 : (j : Int) < 3 := by omega
      go_wp2_with fail
      have hPl : Hid ((k :: (([t, a, b].take j).map b8).flatten).length ≤ 100) := by
        have : j = 0 ∨ j = 1 ∨ j = 2 := by omega
        rcases this with rfl | rfl | rfl <;> simp [Hid, b8]
      have hnx : Hid (k :: (([t, a, b].take (j + 1)).map b8).flatten = k :: (([t, a, b].take j).map b8).flatten ++ b8 n) := by
        have : j = 0 ∨ j = 1 ∨ j = 2 := by omega
        have h2 := HN.out
        rcases this with rfl | rfl | rfl <;> simp [Hid] at h2 ⊢ <;> first | rw [show t = n by omega] | rw [show a = n by omega] | rw [show b = n by omega]
      generalize k :: (([t, a, b].take j).map b8).flatten = P at *
      have hsz : w.heap.size + 1 ≤ wr.heap.size := by have := HB.out.lt; omega
      go_loopw [6, 23] (fun _ i w2 => ∃ q : Nat, q ≤ 8 ∧ i = .int .i64 q ∧ Hid (Lib.IsBuffer 72 5 (w.heap.size + 1) (w.heap.size + 1) (byC (P ++ bq n q)) w2) ∧ Below (w.heap.size + 1) wr w2) (fun _ i _ => 8 - (intOf i).toNat)
      case atStart => exact ⟨0, by omega, rfl, by simpa [bq] using HB, Below.refl _ _⟩
      case round =>
        obtain ⟨q, hq, rfl, HQ, kQ⟩ := hrel
        by_cases hq2 : q < 8
        · have hq3 : (q : Int) < 8 := by omega
          have CW := wb_at (w.heap.size + 1) (w.heap.size + 1) n q
          have hl : (P ++ bq n q).length ≤ 1000000 := by have := hPl.out; rw [List.length_append, bq_len]; omega
          have hs2 := Nat.le_of_lt HQ.out.lt
          go_wp2_with (go_at_call 35; refine (CW.out _ _ HQ.out hs2 hl).mono ?_; rintro e w1 ⟨rfl, hI2, hb2⟩)
          exact ⟨⟨q + 1, by omega, by push_cast; rfl, by rw [bq_more, ← List.append_assoc]; exact hI2, kQ.trans hb2⟩, by simp [intOf]; omega⟩
        · obtain rfl : q = 8 := by omega
          rw [show ((8 : Nat) : Int) = 8 from rfl]
          have HQ2 := Lib.hid HQ.out
          rw [bq_all] at HQ2
          go_wp2_with fail
          exact ⟨⟨j + 1, by omega, by push_cast; rfl, by rw [hnx.out]; exact HQ2.out, kB.trans kQ⟩, by simp [intOf]; omega⟩
    · obtain rfl : j = 3 := by omega
      rw [show ((3 : Nat) : Int) = 3 from rfl]
      have hE3 := (HE.out.step hb1).step kB
      obtain ⟨-, -, -, f8, f9⟩ := hE3
      go_wp2_with fail
      have hPl : Hid ((k :: (([t, a, b].take 3).map b8).flatten).length ≤ 100) := by simp [Hid, b8]
      generalize hP : k :: (([t, a, b].take 3).map b8).flatten = P at *
      have HP := Lib.hid hP
      clear hP
      go_loopw [40, 8] (fun i _ w2 => ∃ j : Nat, j ≤ 2 ∧ i = .int .i64 j ∧ Hid (Lib.IsBuffer 72 5 (w.heap.size + 1) (w.heap.size + 1) (byC (P ++ (([nm, ot].take j).map fun s => s.size :: s.data.toList.map UInt8.toNat).flatten)) w2) ∧ Below (w.heap.size + 1) wr w2) (fun i _ _ => 2 - (intOf i).toNat)
      case atStart => exact ⟨0, by omega, rfl, by simpa using HB, Below.refl _ _⟩
      case round =>
        obtain ⟨j, hj, rfl, HQ, kQ⟩ := hrel
        by_cases hj2 : j < 2
        · have hix := idx2 nm ot wr j hj2
          have hj3 : (j : Int) < 2 := by omega
          obtain ⟨s, hn, hn2⟩ : ∃ s : ByteArray, ([nm, ot].getD j ⟨#[]⟩) = s ∧ s.size ≤ 100 := by
            have : j = 0 ∨ j = 1 := by omega
            rcases this with rfl | rfl
            · exact ⟨nm, rfl, hs1⟩
            · exact ⟨ot, rfl, hs2⟩
          rw [hn] at hix
          have HN := Lib.hid hn
          clear hn
          have hz := Lib.size_eq nm
          have hl : Hid ((P ++ (([nm, ot].take j).map fun s => s.size :: s.data.toList.map UInt8.toNat).flatten).length ≤ 1000) := by
            have h0 := hPl.out
            have : j = 0 ∨ j = 1 := by omega
            unfold Hid
            rcases this with rfl | rfl <;> simp <;> omega
          have hnx : Hid (P ++ (([nm, ot].take (j + 1)).map fun s => s.size :: s.data.toList.map UInt8.toNat).flatten = P ++ (([nm, ot].take j).map fun s => s.size :: s.data.toList.map UInt8.toNat).flatten ++ [s.size] ++ s.data.toList.map UInt8.toNat) := by
            have h2 := HN.out
            have : j = 0 ∨ j = 1 := by omega
            rcases this with rfl | rfl <;> simp [Hid] at h2 ⊢ <;> subst h2 <;> simp
          generalize P ++ (([nm, ot].take j).map fun s => s.size :: s.data.toList.map UInt8.toNat).flatten = Q at *
          have hl1 : Q.length ≤ 1000000 := by have := hl.out; omega
          have hl2 : (Q ++ [s.size]).length ≤ 1000000 := by have := hl.out; simp; omega
          go_wp2_with (first
            | (go_at_call 35; refine (wb_any _ _ Q s.size _ HQ.out (Nat.le_of_lt HQ.out.lt) hl1).mono ?_; rintro e w2 ⟨rfl, hI2, hb2⟩)
            | (go_at_call 36; refine (ws_any _ _ _ s _ hI2 (Nat.le_of_lt hI2.lt) hl2 (by omega)).mono ?_; rintro e w3 ⟨rfl, hI3, hb3⟩))
          exact ⟨⟨j + 1, by omega, by push_cast; rfl, by rw [hnx.out]; exact hI3, (kQ.trans hb2).trans hb3⟩, by simp [intOf]; omega⟩
        · obtain rfl : j = 2 := by omega
          rw [show ((2 : Nat) : Int) = 2 from rfl]
          go_wp2_with (go_at_call 37; refine (Any.Buffer_Bytes laysM183 _ _ _ _ HQ.out).mono ?_; rintro e w4 ⟨v, rfl, hv, n4, rfl⟩)
          go_ret
          have hP := HP.out
          subst hP
          exact ⟨v, rfl, hv, by repeat' (first | exact (KW.out.trans (kB.mono (by omega))).trans (kQ.mono (by omega)) | apply bDrewN | apply bDrew)⟩
end Go.Proofs.YtfepehjbcmkdjaaDoor

/-
  same: two rows of bytes are equal.
-/
set_option linter.unusedSimpArgs false
set_option linter.unusedVariables false
namespace Go.Proofs.YtfepehjbcmkdjaaDoor
open Go.RowKit

def bys (m : List Nat) : List UInt8 := m.map UInt8.ofNat
theorem bys_inj {m n : List Nat} (hm : Byt m) (hn : Byt n) : bys m = bys n ↔ m = n := by
  constructor
  · intro h
    have h1 : (bys m).map UInt8.toNat = (bys n).map UInt8.toNat := by rw [h]
    have e : ∀ l : List Nat, Byt l → (bys l).map UInt8.toNat = l := fun l hl => by
      unfold bys
      rw [List.map_map]
      apply List.ext_getElem (by simp)
      intro j h1 h2
      have := hl j
      rw [List.getD_eq_getElem?_getD, List.getElem?_eq_getElem h2] at this
      simp only [Option.getD_some] at this
      simp [Nat.mod_eq_of_lt this]
    rw [e m hm, e n hn] at h1
    exact h1
  · rintro rfl; rfl
theorem conv_bytes {a : Option Addr} {m : List Nat} {W : World} (hB : Byt m) (hA : BytV a m W) (c : Nat) : (convert 22 9 (.slice a m.length c)).run Tryd.prog W = .ok (.string ⟨(bys m).toArray⟩) W := by
  cases a with
  | none =>
    have hm : m = [] := by
      by_cases h : m = []
      · exact h
      · obtain ⟨b, off, h1, _⟩ := hA h; cases h1
    subst hm
    exact run_convert_bytes_nil W 22 5 Tryd.underlying22 Tryd.underlying5 _ _ 9 Tryd.underlying9
  | some p =>
    have h := run_convert_bytes_back (P := Tryd.prog) W 22 9 5 p c (bys m) Tryd.underlying22 Tryd.underlying5 Tryd.underlying9 (fun j hj => by
      have hj2 : j < m.length := by simpa [bys] using hj
      obtain ⟨b, off, h1, _, h3⟩ := hA (fun e => by rw [e] at hj2; simp at hj2)
      obtain rfl := Option.some.inj h1
      have hadd : ((⟨b, off, none⟩ : Addr).add j) = ⟨b, off + j, none⟩ := by simp [Addr.add]
      rw [hadd, h3 j hj2]
      have := hB j
      rw [List.getD_eq_getElem?_getD, List.getElem?_eq_getElem hj2] at this ⊢
      simp only [Option.getD_some] at this ⊢
      simp [bys, Nat.mod_eq_of_lt this])
    have e : (bys m).length = m.length := by simp [bys]
    rw [e] at h
    exact h
set_option maxRecDepth 20000 in
theorem same_any (a b : Option Addr) (c d : Nat) (m n : List Nat) (w : World) (hm : Byt m) (hn : Byt n) (hA : BytV a m w) (hB : BytV b n w) :
    Calls Tryd.prog 11 #[.slice a m.length c, .slice b n.length d] w fun e w' => e = .returned (.bool (decide (m = n))) ∧ Below w.heap.size w w' := by
  have e : decide (m = n) = decide (bys m = bys n) := by rw [decide_eq_decide]; exact (bys_inj hm hn).symm
  rw [e]
  have h1 := conv_bytes hm hA c
  have h2 := conv_bytes hn hB d
  generalize bys m = x at *
  generalize bys n = y at *
  generalize m.length = lm at *
  generalize n.length = ln at *
  clear hA hB hm hn e
  go_enter Tryd.func11, Tryd.ntmps11
  go_wp2
  go_ret
  have e : (x == y) = decide (x = y) := by by_cases h : x = y <;> simp [h]
  exact ⟨by rw [← e]; rfl, Below.refl _ _⟩
end Go.Proofs.YtfepehjbcmkdjaaDoor

/-
  Bytes of a valid event.
-/
set_option linter.unusedSimpArgs false
set_option linter.unusedVariables false
namespace Go.Proofs.YtfepehjbcmkdjaaDoor
open Sx Go.RowKit
theorem own_byt {B : Nat} {v : Value} {m : List Nat} {W : World} (h : W.ownsRow B 5 1 v (byC m).length (byC m)) : ∃ a c, v = .slice a m.length c ∧ BytV a m W := by
  have hl : (byC m).length = m.length := by simp [byC]
  rw [hl] at h
  obtain ⟨-, h⟩ := h
  rcases h with ⟨rfl, h⟩ | ⟨g, cap, cur, rfl, -, hg, hn, -, hs, ht⟩
  · refine ⟨none, 0, by rw [h], fun hn => ?_⟩
    exact absurd (List.length_eq_zero_iff.1 h) hn
  · refine ⟨_, _, rfl, fun _ => ⟨g, 0, rfl, ?_, fun k hk => ?_⟩⟩
    · rcases Nat.lt_or_ge g W.heap.size with h1 | h1
      · exact h1
      · rw [Array.getElem?_eq_none h1] at hg; cases hg
    · rw [Lib.cell_of_heap hg]
      have h2 : (cur.toList.take (m.length * 1))[k]? = (byC m)[k]? := by rw [ht]
      rw [List.getElem?_take_of_lt (by omega)] at h2
      have h3 : (byC m)[k]? = some (.int .u8 (m.getD k 0 : Nat)) := by
        unfold byC
        rw [List.getElem?_map, List.getElem?_eq_getElem hk, List.getD_eq_getElem?_getD, List.getElem?_eq_getElem hk]
        rfl
      rw [h3] at h2
      simpa using h2
theorem b8_byt (n : Nat) : ∀ x ∈ b8 n, x < 256 := by
  intro x hx
  unfold b8 at hx
  simp only [List.mem_cons, List.not_mem_nil, or_false] at hx
  omega
theorem u8_byt (l : List UInt8) : ∀ x ∈ l.map UInt8.toNat, x < 256 := by
  intro x hx
  obtain ⟨c, _, rfl⟩ := List.mem_map.1 hx
  exact UInt8.toNat_lt c
theorem bytesE_byt {e : Ev} (hk : e.k ≤ 9) (h1 : e.nm.length ≤ 100) (h2 : e.ot.length ≤ 100) : Byt (bytesE e) := by
  have h : ∀ x ∈ bytesE e, x < 256 := by
    intro x hx
    unfold bytesE at hx
    simp only [List.mem_cons, List.mem_append] at hx
    rcases hx with rfl | hx | hx | hx | rfl | hx | rfl | hx
    · omega
    · exact b8_byt _ _ hx
    · exact b8_byt _ _ hx
    · exact b8_byt _ _ hx
    · omega
    · exact u8_byt _ _ hx
    · omega
    · exact u8_byt _ _ hx
  intro k
  by_cases hk : k < (bytesE e).length
  · rw [List.getD_eq_getElem?_getD, List.getElem?_eq_getElem hk]
    exact h _ (List.getElem_mem hk)
  · rw [List.getD_eq_getElem?_getD, List.getElem?_eq_none (by omega)]
    decide
theorem bytesE_is (k t a b : Nat) (nm ot : ByteArray) : k :: (([t, a, b].take 3).map b8).flatten ++ (([nm, ot].take 2).map fun s => s.size :: s.data.toList.map UInt8.toNat).flatten = bytesE (evL k t a b nm ot) := by
  unfold bytesE evL
  simp
set_option maxRecDepth 20000 in
theorem Bytes_nat (k t a b : Nat) (nm ot : ByteArray) (w : World) (hG : Glob0 w) (h1 : nm.size ≤ 100) (h2 : ot.size ≤ 100) (h : okE k t a b nm ot = true) :
    Calls Tryd.prog 19 #[.agg #[.int .i64 k, .int .i64 t, .int .i64 a, .int .i64 b, .string nm, .string ot]] w fun e w' => ∃ p c, e = .returned (.tuple #[.slice p (bytesE (evL k t a b nm ot)).length c, .int .i64 0]) ∧ BytV p (bytesE (evL k t a b nm ot)) w' ∧ Below w.heap.size w w' := by
  have C := Lib.hid (fun W hG => Check_any k t a b nm ot W hG (by omega) (by omega))
  obtain ⟨he, -, -⟩ := okE_ev h
  have q1 := he.k; have q2 := he.t; have q3 := he.a; have q4 := he.b
  unfold evL at q1 q2 q3 q4
  dsimp only at q1 q2 q3 q4
  have R : Hid (∀ W, Calls Tryd.prog 27 #[.agg #[.int .i64 k, .int .i64 t, .int .i64 a, .int .i64 b, .string nm, .string ot]] W fun e w' => ∃ p c, e = .returned (.slice p (bytesE (evL k t a b nm ot)).length c) ∧ BytV p (bytesE (evL k t a b nm ot)) w' ∧ Below W.heap.size W w') := fun W => by
    refine (raw_any k t a b nm ot W ⟨by omega, by omega⟩ (by omega) (by omega) (by omega) h1 h2).mono fun e w' h => ?_
    obtain ⟨v, rfl, hv, hb⟩ := h
    rw [bytesE_is] at hv
    obtain ⟨p, c, rfl, hB⟩ := own_byt hv
    exact ⟨p, c, rfl, hB, hb⟩
  rw [h] at C
  simp only [cond_true] at C
  have HG := Lib.hid hG
  clear hG h h1 h2 he q1 q2 q3 q4
  generalize bytesE (evL k t a b nm ot) = m at *
  generalize m.length = n at *
  go_enter Tryd.func19, Tryd.ntmps19
  go_wp2_with (first
    | (go_at_call 26; refine (C.out _ (gstep HG.out bAl'')).mono ?_; rintro e w1 ⟨rfl, hb1⟩; obtain ⟨hcw1, hfw1⟩ := bcell hb1; have hzw1 := Below.size hb1; (try simp at hzw1); have hzw10 : w.heap.size < w1.heap.size := (by omega))
    | (go_at_call 27; refine (R.out _).mono ?_; rintro e w2 ⟨p, c, rfl, hB2, hb2⟩))
  exact bodyPost_ret (v := .tuple #[.slice p n c, .int .i64 0]) (by simp only [results, Tryd.results19]; go_simp) rfl ⟨p, c, rfl, by first | exact hB2 | exact hB2.step (by repeat' (first | exact Below.refl _ _ | assumption | apply bDrewN | apply bDrew | apply bAlloc | (refine bSet ?_ ?_ _) | (refine bStep ?_ (by assumption)) | omega | (simp <;> omega))), (by repeat' (first | exact Below.refl _ _ | assumption | apply bDrewN | apply bDrew | apply bAlloc | (refine bSet ?_ ?_ _) | (refine bStep ?_ (by assumption)) | omega | (simp <;> omega)))⟩
theorem Bytes_ok (k t a b : Int) (nm ot : ByteArray) (w : World) (hG : Glob0 w) (h1 : nm.size ≤ 100) (h2 : ot.size ≤ 100) (h : okE k t a b nm ot = true) :
    Calls Tryd.prog 19 #[.agg #[.int .i64 k, .int .i64 t, .int .i64 a, .int .i64 b, .string nm, .string ot]] w fun e w' => ∃ p c, e = .returned (.tuple #[.slice p (bytesE (evL k t a b nm ot)).length c, .int .i64 0]) ∧ BytV p (bytesE (evL k t a b nm ot)) w' ∧ Below w.heap.size w w' := by
  obtain ⟨he, -, -⟩ := okE_ev h
  have q1 := he.k; have q2 := he.t; have q3 := he.a; have q4 := he.b
  unfold evL at q1 q2 q3 q4
  dsimp only at q1 q2 q3 q4
  obtain ⟨k, rfl⟩ := Int.eq_ofNat_of_zero_le (show 0 ≤ k by omega)
  obtain ⟨t, rfl⟩ := Int.eq_ofNat_of_zero_le (show 0 ≤ t by omega)
  obtain ⟨a, rfl⟩ := Int.eq_ofNat_of_zero_le (show 0 ≤ a by omega)
  obtain ⟨b, rfl⟩ := Int.eq_ofNat_of_zero_le (show 0 ≤ b by omega)
  exact Bytes_nat k t a b nm ot w hG h1 h2 h
end Go.Proofs.YtfepehjbcmkdjaaDoor
