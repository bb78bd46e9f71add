/-
  raw: the walk (begun).
-/
import Derived.Test.YtdelgbdiofkndaaGreatDoorG13Events
import Derived.Test.YtdelgbdiofkndaaGreatDoorG2Events
import Derived.Laws.IdiomStrings
import Derived.Laws.BytesArg
import Derived.Test.YtdelgbdiofkndaaGreatDoorG0Events
import Derived.Maps.AppendAt
import Derived.OneCell
import Derived.OwnWalk
import Derived.Test.YtdelgbdiofkndaaGreatDoorG1Events
set_option linter.unusedSimpArgs false
set_option linter.unusedVariables false
namespace Go.Proofs.YtdelgbdiofkndaaGreatDoor
open Sx Go.RowKit
/-- The first q bytes of a number. -/
def bq (n q : Nat) : List Nat := (List.range q).map fun i => n / 2 ^ (56 - 8 * i) % 256
theorem bq_more (n q : Nat) : bq n (q + 1) = bq n q ++ [n / 2 ^ (56 - 8 * q) % 256] := by unfold bq; rw [List.range_succ]; simp
theorem bq_all (n : Nat) : bq n 8 = b8 n := by simp [bq, b8, List.range_succ]
theorem bq_len (n q : Nat) : (bq n q).length = q := by simp [bq]
theorem wb_at (B b n q : Nat) : Hid (∀ (l : List Nat) (W : World), Lib.IsBuffer 73 5 B b (byC l) W → B ≤ W.heap.size → l.length ≤ 1000000 →
    Calls Tryz.prog 36 #[.pointer (some ⟨b, 0, none⟩), .int .u8 ((n : Int) / 2 ^ (56 - 8 * q) % 256)] W fun e w' => e = .returned .nilIface ∧ Lib.IsBuffer 73 5 B b (byC (l ++ [n / 2 ^ (56 - 8 * q) % 256])) w' ∧ Below B W w') := fun l W h hB hl => by
  have h2 := wb_any B b l (n / 2 ^ (56 - 8 * q) % 256) W h hB hl
  have e : ((n / 2 ^ (56 - 8 * q) % 256 : Nat) : Int) = (n : Int) / 2 ^ (56 - 8 * q) % 256 := by rw [Int.natCast_emod, Int.natCast_ediv, Int.natCast_pow]; rfl
  rw [e] at h2
  exact h2
/-- The event's cells. -/
def EvMem (B : Nat) (t a b : Int) (nm ot : ByteArray) (W : World) : Prop := W.cell? ⟨B, 1, none⟩ = some (.int .i64 t) ∧ W.cell? ⟨B, 2, none⟩ = some (.int .i64 a) ∧ W.cell? ⟨B, 3, none⟩ = some (.int .i64 b) ∧ W.cell? ⟨B, 4, none⟩ = some (.string nm) ∧ W.cell? ⟨B, 5, none⟩ = some (.string ot)
theorem EvMem.step {B : Nat} {t a b : Int} {nm ot : ByteArray} {W w2 : World} (h : EvMem B t a b nm ot W) (hb : Below (B + 1) W w2) : EvMem B t a b nm ot w2 := by
  obtain ⟨h1, h2, h3, h4, h5⟩ := h
  have q : ∀ o, w2.cell? ⟨B, o, none⟩ = W.cell? ⟨B, o, none⟩ := fun o => hb.cell (p := ⟨B, o, none⟩) (by show B < B + 1; omega)
  exact ⟨(q _).trans h1, (q _).trans h2, (q _).trans h3, (q _).trans h4, (q _).trans h5⟩
set_option maxHeartbeats 1000000 in
set_option maxRecDepth 20000 in
theorem raw_any (k t a b : Nat) (nm ot : ByteArray) (w : World) (hk : 1 ≤ k ∧ k ≤ 9) (ht : t ≤ 1099511627776) (ha : a ≤ 1099511627776) (hb : b ≤ 1099511627776) (hs1 : nm.size ≤ 100) (hs2 : ot.size ≤ 100) :
    Calls Tryz.prog 16 #[.agg #[.int .i64 k, .int .i64 t, .int .i64 a, .int .i64 b, .string nm, .string ot]] w fun e w' => ∃ v, e = .returned v ∧ w'.ownsRow (w.heap.size + 1) 5 1 v (byC (k :: (([t, a, b].take 3).map b8).flatten ++ (([nm, ot].take 2).map fun s => s.size :: s.data.toList.map UInt8.toNat).flatten)).length (byC (k :: (([t, a, b].take 3).map b8).flatten ++ (([nm, ot].take 2).map fun s => s.size :: s.data.toList.map UInt8.toNat).flatten)) ∧ Below w.heap.size w w' := by
  have hsz : (w.alloc (.cells #[.int .i64 k, .int .i64 t, .int .i64 a, .int .i64 b, .string nm, .string ot] 23)).heap.size = w.heap.size + 1 := by simp
  have hI := Lib.fresh_isBuffer 73 5 (w.alloc (.cells #[.int .i64 k, .int .i64 t, .int .i64 a, .int .i64 b, .string nm, .string ot] 23))
  rw [hsz] at hI
  have hE : EvMem w.heap.size t a b nm ot ((w.alloc (.cells #[.int .i64 k, .int .i64 t, .int .i64 a, .int .i64 b, .string nm, .string ot] 23)).alloc (.cells #[.slice none 0 0, .int .i64 0, .int .i8 0] 73)) := by
    unfold EvMem; refine ⟨?_, ?_, ?_, ?_, ?_⟩ <;> go_simp
  have HI := Lib.hid hI
  have HE := Lib.hid hE
  clear hI hE hsz
  go_enter Tryz.func16, Tryz.ntmps16
  go_wp2_with (go_at_call 36; refine (wb_any _ _ [] _ _ HI.out (by simp) (by simp)).mono ?_; rintro e w1 ⟨rfl, hI1, hb1⟩; obtain ⟨f1, f2, f3, f4, f5⟩ := HE.out.step hb1; have HI1 := Lib.hid hI1; have KW := Lib.hid ((bAlloc (bAlloc (Below.refl w.heap.size w) _) _).trans (hb1.mono (show w.heap.size ≤ w.heap.size + 1 by omega))); clear hI1)
  go_loopw [20, 5, 6, 23] (fun i _ _ _ wr => ∃ j : Nat, j ≤ 3 ∧ i = .int .i64 j ∧ Hid (Lib.IsBuffer 73 5 (w.heap.size + 1) (w.heap.size + 1) (byC (k :: (([t, a, b].take j).map b8).flatten)) wr) ∧ Below (w.heap.size + 1) w1 wr) (fun i _ _ _ _ => 3 - (intOf i).toNat)
  case atStart => exact ⟨0, by omega, rfl, HI1, Below.refl _ _⟩
  case round =>
    obtain ⟨j, hj, rfl, HB, kB⟩ := hrel
    by_cases hlt : j < 3
    · have hix := idx3 t a b wr j hlt
      obtain ⟨n, hn, hn2⟩ : ∃ n : Nat, ([(t : Int), a, b].getD j 0) = n ∧ n ≤ 1099511627776 := by
        have : j = 0 ∨ j = 1 ∨ j = 2 := by omega
        rcases this with rfl | rfl | rfl
        · exact ⟨t, rfl, ht⟩
        · exact ⟨a, rfl, ha⟩
        · exact ⟨b, rfl, hb⟩
      rw [hn] at hix
      have HN := Lib.hid hn
      clear hn
      have hj3 : (j : Int) < 3 := by omega
      go_wp2_with fail
      have hPl : Hid ((k :: (([t, a, b].take j).map b8).flatten).length ≤ 100) := by
        have : j = 0 ∨ j = 1 ∨ j = 2 := by omega
        rcases this with rfl | rfl | rfl <;> simp [Hid, b8]
      have hnx : Hid (k :: (([t, a, b].take (j + 1)).map b8).flatten = k :: (([t, a, b].take j).map b8).flatten ++ b8 n) := by
        have : j = 0 ∨ j = 1 ∨ j = 2 := by omega
        have h2 := HN.out
        rcases this with rfl | rfl | rfl <;> simp [Hid] at h2 ⊢ <;> first | rw [show t = n by omega] | rw [show a = n by omega] | rw [show b = n by omega]
      generalize k :: (([t, a, b].take j).map b8).flatten = P at *
      have hsz : w.heap.size + 1 ≤ wr.heap.size := by have := HB.out.lt; omega
      go_loopw [6, 23] (fun _ i w2 => ∃ q : Nat, q ≤ 8 ∧ i = .int .i64 q ∧ Hid (Lib.IsBuffer 73 5 (w.heap.size + 1) (w.heap.size + 1) (byC (P ++ bq n q)) w2) ∧ Below (w.heap.size + 1) wr w2) (fun _ i _ => 8 - (intOf i).toNat)
      case atStart => exact ⟨0, by omega, rfl, by simpa [bq] using HB, Below.refl _ _⟩
      case round =>
        obtain ⟨q, hq, rfl, HQ, kQ⟩ := hrel
        by_cases hq2 : q < 8
        · have hq3 : (q : Int) < 8 := by omega
          have CW := wb_at (w.heap.size + 1) (w.heap.size + 1) n q
          have hl : (P ++ bq n q).length ≤ 1000000 := by have := hPl.out; rw [List.length_append, bq_len]; omega
          have hs2 := Nat.le_of_lt HQ.out.lt
          go_wp2_with (go_at_call 36; refine (CW.out _ _ HQ.out hs2 hl).mono ?_; rintro e w1 ⟨rfl, hI2, hb2⟩)
          exact ⟨⟨q + 1, by omega, by push_cast; rfl, by rw [bq_more, ← List.append_assoc]; exact hI2, kQ.trans hb2⟩, by simp [intOf]; omega⟩
        · obtain rfl : q = 8 := by omega
          rw [show ((8 : Nat) : Int) = 8 from rfl]
          have HQ2 := Lib.hid HQ.out
          rw [bq_all] at HQ2
          go_wp2_with fail
          exact ⟨⟨j + 1, by omega, by push_cast; rfl, by rw [hnx.out]; exact HQ2.out, kB.trans kQ⟩, by simp [intOf]; omega⟩
    · obtain rfl : j = 3 := by omega
      rw [show ((3 : Nat) : Int) = 3 from rfl]
      have hE3 := (HE.out.step hb1).step kB
      obtain ⟨-, -, -, f8, f9⟩ := hE3
      go_wp2_with fail
      have hPl : Hid ((k :: (([t, a, b].take 3).map b8).flatten).length ≤ 100) := by simp [Hid, b8]
      generalize hP : k :: (([t, a, b].take 3).map b8).flatten = P at *
      have HP := Lib.hid hP
      clear hP
      go_loopw [40, 8] (fun i _ w2 => ∃ j : Nat, j ≤ 2 ∧ i = .int .i64 j ∧ Hid (Lib.IsBuffer 73 5 (w.heap.size + 1) (w.heap.size + 1) (byC (P ++ (([nm, ot].take j).map fun s => s.size :: s.data.toList.map UInt8.toNat).flatten)) w2) ∧ Below (w.heap.size + 1) wr w2) (fun i _ _ => 2 - (intOf i).toNat)
      case atStart => exact ⟨0, by omega, rfl, by simpa using HB, Below.refl _ _⟩
      case round =>
        obtain ⟨j, hj, rfl, HQ, kQ⟩ := hrel
        by_cases hj2 : j < 2
        · have hix := idx2 nm ot wr j hj2
          have hj3 : (j : Int) < 2 := by omega
          obtain ⟨s, hn, hn2⟩ : ∃ s : ByteArray, ([nm, ot].getD j ⟨#[]⟩) = s ∧ s.size ≤ 100 := by
            have : j = 0 ∨ j = 1 := by omega
            rcases this with rfl | rfl
            · exact ⟨nm, rfl, hs1⟩
            · exact ⟨ot, rfl, hs2⟩
          rw [hn] at hix
          have HN := Lib.hid hn
          clear hn
          have hz := Lib.size_eq nm
          have hl : Hid ((P ++ (([nm, ot].take j).map fun s => s.size :: s.data.toList.map UInt8.toNat).flatten).length ≤ 1000) := by
            have h0 := hPl.out
            have : j = 0 ∨ j = 1 := by omega
            unfold Hid
            rcases this with rfl | rfl <;> simp <;> omega
          have hnx : Hid (P ++ (([nm, ot].take (j + 1)).map fun s => s.size :: s.data.toList.map UInt8.toNat).flatten = P ++ (([nm, ot].take j).map fun s => s.size :: s.data.toList.map UInt8.toNat).flatten ++ [s.size] ++ s.data.toList.map UInt8.toNat) := by
            have h2 := HN.out
            have : j = 0 ∨ j = 1 := by omega
            rcases this with rfl | rfl <;> simp [Hid] at h2 ⊢ <;> subst h2 <;> simp
          generalize P ++ (([nm, ot].take j).map fun s => s.size :: s.data.toList.map UInt8.toNat).flatten = Q at *
          have hl1 : Q.length ≤ 1000000 := by have := hl.out; omega
          have hl2 : (Q ++ [s.size]).length ≤ 1000000 := by have := hl.out; simp; omega
          go_wp2_with (first
            | (go_at_call 36; refine (wb_any _ _ Q s.size _ HQ.out (Nat.le_of_lt HQ.out.lt) hl1).mono ?_; rintro e w2 ⟨rfl, hI2, hb2⟩)
            | (go_at_call 37; refine (ws_any _ _ _ s _ hI2 (Nat.le_of_lt hI2.lt) hl2 (by omega)).mono ?_; rintro e w3 ⟨rfl, hI3, hb3⟩))
          exact ⟨⟨j + 1, by omega, by push_cast; rfl, by rw [hnx.out]; exact hI3, (kQ.trans hb2).trans hb3⟩, by simp [intOf]; omega⟩
        · obtain rfl : j = 2 := by omega
          rw [show ((2 : Nat) : Int) = 2 from rfl]
          go_wp2_with (go_at_call 38; refine (Any.Buffer_Bytes laysM183 _ _ _ _ HQ.out).mono ?_; rintro e w4 ⟨v, rfl, hv, n4, rfl⟩)
          go_ret
          have hP := HP.out
          subst hP
          exact ⟨v, rfl, hv, by repeat' (first | exact (KW.out.trans (kB.mono (by omega))).trans (kQ.mono (by omega)) | apply bDrewN | apply bDrew)⟩
end Go.Proofs.YtdelgbdiofkndaaGreatDoor

/-
  same: two rows of bytes are equal.
-/
set_option linter.unusedSimpArgs false
set_option linter.unusedVariables false
namespace Go.Proofs.YtdelgbdiofkndaaGreatDoor
open Go.RowKit

def bys (m : List Nat) : List UInt8 := m.map UInt8.ofNat
theorem bys_inj {m n : List Nat} (hm : Byt m) (hn : Byt n) : bys m = bys n ↔ m = n := by
  constructor
  · intro h
    have h1 : (bys m).map UInt8.toNat = (bys n).map UInt8.toNat := by rw [h]
    have e : ∀ l : List Nat, Byt l → (bys l).map UInt8.toNat = l := fun l hl => by
      unfold bys
      rw [List.map_map]
      apply List.ext_getElem (by simp)
      intro j h1 h2
      have := hl j
      rw [List.getD_eq_getElem?_getD, List.getElem?_eq_getElem h2] at this
      simp only [Option.getD_some] at this
      simp [Nat.mod_eq_of_lt this]
    rw [e m hm, e n hn] at h1
    exact h1
  · rintro rfl; rfl
theorem conv_bytes {a : Option Addr} {m : List Nat} {W : World} (hB : Byt m) (hA : BytV a m W) (c : Nat) : (convert 26 9 (.slice a m.length c)).run Tryz.prog W = .ok (.string ⟨(bys m).toArray⟩) W := by
  cases a with
  | none =>
    have hm : m = [] := by
      by_cases h : m = []
      · exact h
      · obtain ⟨b, off, h1, _⟩ := hA h; cases h1
    subst hm
    exact run_convert_bytes_nil W 26 5 Tryz.underlying26 Tryz.underlying5 _ _ 9 Tryz.underlying9
  | some p =>
    have h := run_convert_bytes_back (P := Tryz.prog) W 26 9 5 p c (bys m) Tryz.underlying26 Tryz.underlying5 Tryz.underlying9 (fun j hj => by
      have hj2 : j < m.length := by simpa [bys] using hj
      obtain ⟨b, off, h1, _, h3⟩ := hA (fun e => by rw [e] at hj2; simp at hj2)
      obtain rfl := Option.some.inj h1
      have hadd : ((⟨b, off, none⟩ : Addr).add j) = ⟨b, off + j, none⟩ := by simp [Addr.add]
      rw [hadd, h3 j hj2]
      have := hB j
      rw [List.getD_eq_getElem?_getD, List.getElem?_eq_getElem hj2] at this ⊢
      simp only [Option.getD_some] at this ⊢
      simp [bys, Nat.mod_eq_of_lt this])
    have e : (bys m).length = m.length := by simp [bys]
    rw [e] at h
    exact h
set_option maxRecDepth 20000 in
theorem same_any (a b : Option Addr) (c d : Nat) (m n : List Nat) (w : World) (hm : Byt m) (hn : Byt n) (hA : BytV a m w) (hB : BytV b n w) :
    Calls Tryz.prog 14 #[.slice a m.length c, .slice b n.length d] w fun e w' => e = .returned (.bool (decide (m = n))) ∧ Below w.heap.size w w' := by
  have e : decide (m = n) = decide (bys m = bys n) := by rw [decide_eq_decide]; exact (bys_inj hm hn).symm
  rw [e]
  have h1 := conv_bytes hm hA c
  have h2 := conv_bytes hn hB d
  generalize bys m = x at *
  generalize bys n = y at *
  generalize m.length = lm at *
  generalize n.length = ln at *
  clear hA hB hm hn e
  go_enter Tryz.func14, Tryz.ntmps14
  go_wp2
  go_ret
  have e : (x == y) = decide (x = y) := by by_cases h : x = y <;> simp [h]
  exact ⟨by rw [← e]; rfl, Below.refl _ _⟩
end Go.Proofs.YtdelgbdiofkndaaGreatDoor

/-
  Bytes of a valid event.
-/
set_option linter.unusedSimpArgs false
set_option linter.unusedVariables false
namespace Go.Proofs.YtdelgbdiofkndaaGreatDoor
open Sx Go.RowKit
theorem own_byt {B : Nat} {v : Value} {m : List Nat} {W : World} (h : W.ownsRow B 5 1 v (byC m).length (byC m)) : ∃ a c, v = .slice a m.length c ∧ BytV a m W := by
  have hl : (byC m).length = m.length := by simp [byC]
  rw [hl] at h
  obtain ⟨-, h⟩ := h
  rcases h with ⟨rfl, h⟩ | ⟨g, cap, cur, rfl, -, hg, hn, -, hs, ht⟩
  · refine ⟨none, 0, by rw [h], fun hn => ?_⟩
    exact absurd (List.length_eq_zero_iff.1 h) hn
  · refine ⟨_, _, rfl, fun _ => ⟨g, 0, rfl, ?_, fun k hk => ?_⟩⟩
    · rcases Nat.lt_or_ge g W.heap.size with h1 | h1
      · exact h1
      · rw [Array.getElem?_eq_none h1] at hg; cases hg
    · rw [Lib.cell_of_heap hg]
      have h2 : (cur.toList.take (m.length * 1))[k]? = (byC m)[k]? := by rw [ht]
      rw [List.getElem?_take_of_lt (by omega)] at h2
      have h3 : (byC m)[k]? = some (.int .u8 (m.getD k 0 : Nat)) := by
        unfold byC
        rw [List.getElem?_map, List.getElem?_eq_getElem hk, List.getD_eq_getElem?_getD, List.getElem?_eq_getElem hk]
        rfl
      rw [h3] at h2
      simpa using h2
theorem b8_byt (n : Nat) : ∀ x ∈ b8 n, x < 256 := by
  intro x hx
  unfold b8 at hx
  simp only [List.mem_cons, List.not_mem_nil, or_false] at hx
  omega
theorem u8_byt (l : List UInt8) : ∀ x ∈ l.map UInt8.toNat, x < 256 := by
  intro x hx
  obtain ⟨c, _, rfl⟩ := List.mem_map.1 hx
  exact UInt8.toNat_lt c
theorem bytesE_byt {e : Ev} (hk : e.k ≤ 9) (h1 : e.nm.length ≤ 100) (h2 : e.ot.length ≤ 100) : Byt (bytesE e) := by
  have h : ∀ x ∈ bytesE e, x < 256 := by
    intro x hx
    unfold bytesE at hx
    simp only [List.mem_cons, List.mem_append] at hx
    rcases hx with rfl | hx | hx | hx | rfl | hx | rfl | hx
    · omega
    · exact b8_byt _ _ hx
    · exact b8_byt _ _ hx
    · exact b8_byt _ _ hx
    · omega
    · exact u8_byt _ _ hx
    · omega
    · exact u8_byt _ _ hx
  intro k
  by_cases hk : k < (bytesE e).length
  · rw [List.getD_eq_getElem?_getD, List.getElem?_eq_getElem hk]
    exact h _ (List.getElem_mem hk)
  · rw [List.getD_eq_getElem?_getD, List.getElem?_eq_none (by omega)]
    decide
theorem bytesE_is (k t a b : Nat) (nm ot : ByteArray) : k :: (([t, a, b].take 3).map b8).flatten ++ (([nm, ot].take 2).map fun s => s.size :: s.data.toList.map UInt8.toNat).flatten = bytesE (evL k t a b nm ot) := by
  unfold bytesE evL
  simp
set_option maxRecDepth 20000 in
theorem Bytes_nat (k t a b : Nat) (nm ot : ByteArray) (w : World) (hG : Glob0 w) (h1 : nm.size ≤ 100) (h2 : ot.size ≤ 100) (h : okE k t a b nm ot = true) :
    Calls Tryz.prog 6 #[.agg #[.int .i64 k, .int .i64 t, .int .i64 a, .int .i64 b, .string nm, .string ot]] w fun e w' => ∃ p c, e = .returned (.tuple #[.slice p (bytesE (evL k t a b nm ot)).length c, .int .i64 0]) ∧ BytV p (bytesE (evL k t a b nm ot)) w' ∧ Below w.heap.size w w' := by
  have C := Lib.hid (fun W hG => Check_any k t a b nm ot W hG (by omega) (by omega))
  obtain ⟨he, -, -⟩ := okE_ev h
  have q1 := he.k; have q2 := he.t; have q3 := he.a; have q4 := he.b
  unfold evL at q1 q2 q3 q4
  dsimp only at q1 q2 q3 q4
  have R : Hid (∀ W, Calls Tryz.prog 16 #[.agg #[.int .i64 k, .int .i64 t, .int .i64 a, .int .i64 b, .string nm, .string ot]] W fun e w' => ∃ p c, e = .returned (.slice p (bytesE (evL k t a b nm ot)).length c) ∧ BytV p (bytesE (evL k t a b nm ot)) w' ∧ Below W.heap.size W w') := fun W => by
    refine (raw_any k t a b nm ot W ⟨by omega, by omega⟩ (by omega) (by omega) (by omega) h1 h2).mono fun e w' h => ?_
    obtain ⟨v, rfl, hv, hb⟩ := h
    rw [bytesE_is] at hv
    obtain ⟨p, c, rfl, hB⟩ := own_byt hv
    exact ⟨p, c, rfl, hB, hb⟩
  rw [h] at C
  simp only [cond_true] at C
  have HG := Lib.hid hG
  clear hG h h1 h2 he q1 q2 q3 q4
  generalize bytesE (evL k t a b nm ot) = m at *
  generalize m.length = n at *
  go_enter Tryz.func6, Tryz.ntmps6
  go_wp2_with (first
    | (go_at_call 12; refine (C.out _ (gstep HG.out bAl'')).mono ?_; rintro e w1 ⟨rfl, hb1⟩; obtain ⟨hcw1, hfw1⟩ := bcell hb1; have hzw1 := Below.size hb1; (try simp at hzw1); have hzw10 : w.heap.size < w1.heap.size := (by omega))
    | (go_at_call 16; refine (R.out _).mono ?_; rintro e w2 ⟨p, c, rfl, hB2, hb2⟩))
  exact bodyPost_ret (v := .tuple #[.slice p n c, .int .i64 0]) (by simp only [results, Tryz.results6]; go_simp) rfl ⟨p, c, rfl, by first | exact hB2 | exact hB2.step (by repeat' (first | exact Below.refl _ _ | assumption | apply bDrewN | apply bDrew | apply bAlloc | (refine bSet ?_ ?_ _) | (refine bStep ?_ (by assumption)) | omega | (simp <;> omega))), (by repeat' (first | exact Below.refl _ _ | assumption | apply bDrewN | apply bDrew | apply bAlloc | (refine bSet ?_ ?_ _) | (refine bStep ?_ (by assumption)) | omega | (simp <;> omega)))⟩
theorem Bytes_ok (k t a b : Int) (nm ot : ByteArray) (w : World) (hG : Glob0 w) (h1 : nm.size ≤ 100) (h2 : ot.size ≤ 100) (h : okE k t a b nm ot = true) :
    Calls Tryz.prog 6 #[.agg #[.int .i64 k, .int .i64 t, .int .i64 a, .int .i64 b, .string nm, .string ot]] w fun e w' => ∃ p c, e = .returned (.tuple #[.slice p (bytesE (evL k t a b nm ot)).length c, .int .i64 0]) ∧ BytV p (bytesE (evL k t a b nm ot)) w' ∧ Below w.heap.size w w' := by
  obtain ⟨he, -, -⟩ := okE_ev h
  have q1 := he.k; have q2 := he.t; have q3 := he.a; have q4 := he.b
  unfold evL at q1 q2 q3 q4
  dsimp only at q1 q2 q3 q4
  obtain ⟨k, rfl⟩ := Int.eq_ofNat_of_zero_le (show 0 ≤ k by omega)
  obtain ⟨t, rfl⟩ := Int.eq_ofNat_of_zero_le (show 0 ≤ t by omega)
  obtain ⟨a, rfl⟩ := Int.eq_ofNat_of_zero_le (show 0 ≤ a by omega)
  obtain ⟨b, rfl⟩ := Int.eq_ofNat_of_zero_le (show 0 ≤ b by omega)
  exact Bytes_nat k t a b nm ot w hG h1 h2 h
end Go.Proofs.YtdelgbdiofkndaaGreatDoor

/-
  Own rows of any types, any number of them, in any order; objects that stay.
-/
set_option linter.unusedSimpArgs false
set_option linter.unusedVariables false
namespace Go.Proofs.YtdelgbdiofkndaaGreatDoor
open Go.RowKit
namespace Mr
theorem bAl {W : World} {o : Obj} : Below W.heap.size W (W.alloc o) := (Below.refl _ _).alloc (Nat.le_refl _) _
def updF {α : Type} (f : Nat → α) (s : Nat) (v : α) : Nat → α := fun t => if t = s then v else f t
theorem updF_at {α : Type} {f : Nat → α} {s : Nat} {v : α} : updF f s v s = v := if_pos rfl
theorem updF_ne {α : Type} {f : Nat → α} {s t : Nat} {v : α} (h : t ≠ s) : updF f s v t = f t := if_neg h
theorem blk_grown {W w' : World} {row : Option Nat} {b : Nat} {x : Obj} (h : W.heap[b]? = some x) (hg : W.grownBy w' row) (hne : some b ≠ row) : w'.heap[b]? = some x := (hg.block b (blk_lt h) hne).trans h
theorem own_base {W : World} {B B2 e s n : Nat} {v : Value} {xs : List Value} (h : W.ownsRow B e s v n xs) (hB : B2 ≤ B) : W.ownsRow B2 e s v n xs := by
  obtain ⟨h1, h2⟩ := h
  refine ⟨h1, ?_⟩
  rcases h2 with h2 | ⟨g, cap, cur, q1, q2, q3⟩
  · exact Or.inl h2
  · exact Or.inr ⟨g, cap, cur, q1, by omega, q3⟩
theorem own_step {W w2 : World} {B e s n : Nat} {v : Value} {xs : List Value} (h : W.ownsRow B e s v n xs) (hb : Below W.heap.size W w2) : w2.ownsRow B e s v n xs := by
  obtain ⟨h1, h2⟩ := h
  refine ⟨h1, ?_⟩
  rcases h2 with h2 | ⟨g, cap, cur, q1, q2, q3, q4⟩
  · exact Or.inl h2
  · exact Or.inr ⟨g, cap, cur, q1, q2, blk_step q3 hb, q4⟩
/-- A row: the element's type, its cells, the slice, how many, the cells. -/
structure Rw where
  E : TypeId
  sz : Nat
  v : Value
  n : Nat
  xs : List Value
def Rw.Own (W : World) (B : Nat) (r : Rw) : Prop := W.ownsRow B r.E r.sz r.v r.n r.xs
theorem Rw.Own.step {W w2 : World} {B : Nat} {r : Rw} (h : r.Own W B) (hb : Below W.heap.size W w2) : r.Own w2 B := own_step h hb
theorem Rw.Own.lt {W : World} {B : Nat} {r : Rw} (h : r.Own W B) : ∀ k, r.v.ownBlock = some k → B ≤ k ∧ k < W.heap.size := World.ownsRow.lt h
/-- The cells of an own row. -/
theorem Rw.Own.get {W : World} {B : Nat} {r : Rw} (h : r.Own W B) : ∃ a c, r.v = .slice a r.n c ∧ (r.n * r.sz ≠ 0 → ∃ g, a = some ⟨g, 0, none⟩ ∧ g < W.heap.size ∧ ∀ j u, r.xs[j]? = some u → W.cell? ⟨g, j, none⟩ = some u) := by
  obtain ⟨h1, h2⟩ := h
  rcases h2 with ⟨h2, h3⟩ | ⟨g, cap, cur, q1, q2, q3, q4, q5, q6, q7⟩
  · exact ⟨none, 0, by rw [h2, h3], fun h => absurd (by rw [h3, Nat.zero_mul]) h⟩
  · refine ⟨_, cap, q1, fun _ => ⟨g, rfl, blk_lt q3, fun j u hj => ?_⟩⟩
    have hjl := (List.getElem?_eq_some_iff.1 hj).1
    rw [← q7, List.getElem?_take_of_lt (by omega)] at hj
    exact blk_cell q3 (by simpa using hj)
def Far (u v : Value) : Prop := ∀ k, u.ownBlock = some k → v.ownBlock = some k → False
theorem Far.symm {u v : Value} (h : Far u v) : Far v u := fun k h1 h2 => h k h2 h1
theorem Far.ne {u v : Value} (h : Far u v) : u.ownBlock = none ∨ u.ownBlock ≠ v.ownBlock := by
  cases hu : u.ownBlock with
  | none => exact Or.inl rfl
  | some k => exact Or.inr fun e => h k hu e.symm
/-- Behind the world w: the own rows f, in blocks from B on, no two in one block; the objects L, in none of the rows' blocks. -/
structure MR (w : World) (B : Nat) (L : Nat → Option Obj) (f : Nat → Option Rw) (W : World) : Prop where
  hB : w.heap.size ≤ B
  bel : Below w.heap.size w W
  sz : B ≤ W.heap.size
  sb : ∀ p o, L p = some o → W.heap[p]? = some o
  hL : ∀ p o s r, L p = some o → f s = some r → r.v.ownBlock ≠ some p
  own : ∀ s r, f s = some r → r.Own W B
  far : ∀ s s' r r', s ≠ s' → f s = some r → f s' = some r' → Far r.v r'.v
section
variable {w W w2 w' : World} {B : Nat} {L L' : Nat → Option Obj} {f f' : Nat → Option Rw} {s : Nat} {r r' : Rw}
theorem MR.congr (h : MR w B L f W) (hf : ∀ s, f' s = f s) : MR w B L f' W := by
  obtain rfl : f' = f := funext hf
  exact h
theorem MR.congrL (h : MR w B L f W) (hf : ∀ s, L' s = L s) : MR w B L' f W := by
  obtain rfl : L' = L := funext hf
  exact h
theorem MR.less (h : MR w B L f W) (hf : ∀ s p, f' s = some p → f s = some p) : MR w B L f' W :=
  ⟨h.hB, h.bel, h.sz, h.sb, fun p o s r e e' => h.hL p o s r e (hf s r e'), fun s r e => h.own s r (hf s _ e), fun s s' r r' n e e' => h.far s s' r r' n (hf s _ e) (hf s' _ e')⟩
theorem MR.lessL (h : MR w B L f W) (hf : ∀ p o, L' p = some o → L p = some o) : MR w B L' f W :=
  ⟨h.hB, h.bel, h.sz, fun p o e => h.sb p o (hf p o e), fun p o s r e e' => h.hL p o s r (hf p o e) e', h.own, h.far⟩
theorem MR.drop (h : MR w B L f W) (s : Nat) : MR w B L (updF f s none) W := h.less fun t p e => by
  by_cases c : t = s
  · subst c; rw [updF_at] at e; cases e
  · rwa [updF_ne c] at e
/-- Rows under other names. -/
theorem MR.perm (h : MR w B L f W) (g : Nat → Nat) (hg : ∀ s s' r, s ≠ s' → f' s = some r → g s ≠ g s') (hf : ∀ s r, f' s = some r → f (g s) = some r) : MR w B L f' W :=
  ⟨h.hB, h.bel, h.sz, h.sb, fun p o s r e e' => h.hL p o (g s) r e (hf s r e'), fun s r e => h.own (g s) r (hf s r e), fun s s' r r' n e e' => h.far (g s) (g s') r r' (hg s s' r n e) (hf s r e) (hf s' r' e')⟩
theorem MR.start (hB : w.heap.size ≤ B) (hb : Below w.heap.size w W) (hs : B ≤ W.heap.size) (hL : ∀ p o, L p = some o → W.heap[p]? = some o) : MR w B L (fun _ => none) W :=
  ⟨hB, hb, hs, hL, (fun p o s r _ e => by cases e), (fun s r e => by cases e), (fun s s' r r' n e => by cases e)⟩
theorem MR.step (h : MR w B L f W) (hb : Below W.heap.size W w2) : MR w B L f w2 :=
  ⟨h.hB, bStep h.bel hb, Nat.le_trans h.sz hb.size, fun p o e => blk_step (h.sb p o e) hb, h.hL, fun s r e => (h.own s r e).step hb, h.far⟩
theorem MR.put (h : MR w B L f W) (s : Nat) (ho : r.Own W B) (hf : ∀ s' r', s' ≠ s → f s' = some r' → Far r.v r'.v) (hl : ∀ p o, L p = some o → r.v.ownBlock ≠ some p) : MR w B L (updF f s (some r)) W := by
  refine ⟨h.hB, h.bel, h.sz, h.sb, fun p o t r' e e' => ?_, fun t r' e => ?_, fun t t' r1 r2 n e e' => ?_⟩
  · by_cases c : t = s
    · subst c; rw [updF_at] at e'; cases e'; exact hl p o e
    · rw [updF_ne c] at e'; exact h.hL p o t r' e e'
  · by_cases c : t = s
    · subst c; rw [updF_at] at e; cases e; exact ho
    · rw [updF_ne c] at e; exact h.own t r' e
  · by_cases c : t = s
    · subst c
      rw [updF_at] at e
      rw [updF_ne (Ne.symm n)] at e'
      cases e
      exact hf t' r2 (Ne.symm n) e'
    · by_cases c' : t' = s
      · subst c'
        rw [updF_at] at e'
        rw [updF_ne c] at e
        cases e'
        exact (hf t r1 c e).symm
      · rw [updF_ne c] at e
        rw [updF_ne c'] at e'
        exact h.far t t' r1 r2 n e e'
/-- A row that lies in new blocks. -/
theorem MR.call (h : MR w B L f W) (s : Nat) (hb : Below W.heap.size W w2) (ho : r.Own w2 W.heap.size) : MR w B L (updF f s (some r)) w2 :=
  (h.step hb).put s (own_base ho h.sz) (fun s' r' _ e k e1 e2 => by
    have h1 := (ho.lt k e1).1
    have h2 := ((h.own s' r' e).lt k e2).2
    omega) fun p o e c => by
    have h1 := (ho.lt p c).1
    have h2 := blk_lt (h.sb p o e)
    omega
theorem own_fresh {cs : Array Value} {E sz n cap : Nat} (hl : cap ≤ maxLen) (hn : n ≤ cap) (hs : cs.size = cap * sz) : (⟨E, sz, .slice (some ⟨W.heap.size, 0, none⟩) n cap, n, cs.toList.take (n * sz)⟩ : Rw).Own (W.alloc (.cells cs E)) W.heap.size := by
  have hle : n * sz ≤ cs.size := by rw [hs]; exact Nat.mul_le_mul_right _ hn
  exact ⟨by simp [hle], Or.inr ⟨_, _, _, rfl, Nat.le_refl _, blk_new W _, hn, hl, hs, rfl⟩⟩
theorem MR.fresh (h : MR w B L f W) (s : Nat) (cs : Array Value) (E sz n : Nat) (hl : n ≤ maxLen) (hs : cs.size = n * sz) : MR w B L (updF f s (some ⟨E, sz, .slice (some ⟨W.heap.size, 0, none⟩) n n, n, cs.toList⟩)) (W.alloc (.cells cs E)) := by
  have h2 := own_fresh (W := W) (E := E) hl (Nat.le_refl _) hs
  rw [List.take_of_length_le (by simp [hs])] at h2
  exact h.call s bAl h2
/-- A row that has grown. -/
theorem MR.app (h : MR w B L f W) (s : Nat) (hs : f s = some r) (ho : r'.Own w' B) (hg : W.grownBy w' r.v.ownBlock) (hat : r'.v.ownBlock = r.v.ownBlock ∨ r'.v.ownBlock = some W.heap.size) : MR w B L (updF f s (some r')) w' := by
  have hB := h.hB
  have h0 := h.own s r hs
  have hr : ∀ k, r.v.ownBlock = some k → B ≤ k := fun k e => (h0.lt k e).1
  have h1 : MR w B L (updF f s none) w' := by
    refine ⟨h.hB, h.bel.grown hg (by have := h.bel.size; omega) fun k hk => by have := hr k hk; omega, Nat.le_trans h.sz hg.size, fun p o e => ?_, fun p o t r1 e e' => ?_, fun t r1 e => ?_, fun t t' r1 r2 n e e' => ?_⟩
    · exact blk_grown (h.sb p o e) hg fun c => h.hL p o s r e hs c.symm
    · by_cases c : t = s
      · subst c; rw [updF_at] at e'; cases e'
      · rw [updF_ne c] at e'; exact h.hL p o t r1 e e'
    · by_cases c : t = s
      · subst c; rw [updF_at] at e; cases e
      · rw [updF_ne c] at e
        exact World.ownsRow.kept (h.own t r1 e) hg (h.far t s r1 r c e hs).ne
    · by_cases c : t = s
      · subst c; rw [updF_at] at e; cases e
      · by_cases c' : t' = s
        · subst c'; rw [updF_at] at e'; cases e'
        · rw [updF_ne c] at e
          rw [updF_ne c'] at e'
          exact h.far t t' r1 r2 n e e'
  refine (h1.put s ho (fun s' r1 n e k e1 e2 => ?_) fun p o e c => ?_).congr fun t => ?_
  · rw [updF_ne n] at e
    rcases hat with q | q
    · exact h.far s s' r r1 (Ne.symm n) hs e k (q.symm.trans e1) e2
    · have := ((h.own s' r1 e).lt k e2).2
      rw [q] at e1
      simp at e1
      omega
  · rcases hat with q | q
    · exact h.hL p o s r e hs (q.symm.trans c)
    · rw [q] at c
      have := blk_lt (h.sb p o e)
      simp at c
      omega
  · by_cases c : t = s
    · subst c; rw [updF_at, updF_at]
    · rw [updF_ne c, updF_ne c, updF_ne c]
/-- A block that stays, made just now. -/
theorem MR.obj (h : MR w B L f W) (o : Obj) : MR w B (updF L W.heap.size (some o)) f (W.alloc o) := by
  have k := h.step (bAl (o := o))
  refine ⟨k.hB, k.bel, k.sz, fun p o' e => ?_, fun p o' s r e e' => ?_, k.own, k.far⟩
  · by_cases c : p = W.heap.size
    · subst c; rw [updF_at] at e; cases e; exact blk_new W _
    · rw [updF_ne c] at e; exact k.sb p o' e
  · by_cases c : p = W.heap.size
    · subst c
      intro c
      have := ((h.own s r e').lt _ c).2
      omega
    · rw [updF_ne c] at e; exact h.hL p o' s r e e'
/-- A block that a call has made stays. -/
theorem MR.got (h : MR w B L f W) (hb : Below W.heap.size W w2) {p : Nat} {o : Obj} (hp : W.heap.size ≤ p) (ho : w2.heap[p]? = some o) : MR w B (updF L p (some o)) f w2 := by
  have k := h.step hb
  refine ⟨k.hB, k.bel, k.sz, fun q o' e => ?_, fun q o' s r e e' => ?_, k.own, k.far⟩
  · by_cases c : q = p
    · subst c; rw [updF_at] at e; cases e; exact ho
    · rw [updF_ne c] at e; exact k.sb q o' e
  · by_cases c : q = p
    · subst c
      intro c
      have := ((h.own s r e').lt _ c).2
      omega
    · rw [updF_ne c] at e; exact h.hL q o' s r e e'
/-- A store into a block that stays. -/
theorem MR.store {p o : Nat} {u : Value} {cs : Array Value} {t : TypeId} (h : MR w B L f W) (hp : L p = some (.cells cs t (0, 0))) (hw : w.heap.size ≤ p) : MR w B (updF L p (some (.cells (cs.setIfInBounds o u) t (0, 0)))) f (W.setCell ⟨p, o, none⟩ u) := by
  refine ⟨h.hB, h.bel.setCell hw _, by simpa using h.sz, fun q ob e => ?_, fun q ob s r e e' => ?_, fun s r e => ownsRow_setCell_other (h.own s r e) (h.hL p _ s r hp e) _, h.far⟩
  · by_cases c : q = p
    · subst c; rw [updF_at] at e; cases e; exact blk_set (h.sb q _ hp)
    · rw [updF_ne c] at e; exact blk_set_other (h.sb q ob e) c
  · by_cases c : q = p
    · subst c; rw [updF_at] at e; cases e; exact h.hL q _ s r hp e'
    · rw [updF_ne c] at e; exact h.hL q ob s r e e'
end
/-- A slice whose cells lie in an object that stays. -/
def RdL (L : Nat → Option Obj) (v : Value) (n sz : Nat) (xs : List Value) : Prop := xs.length = n * sz ∧ ∃ a c, v = .slice a n c ∧ (n * sz ≠ 0 → ∃ p off cs t fr, a = some ⟨p, off, none⟩ ∧ L p = some (.cells cs t fr) ∧ ∀ j u, xs[j]? = some u → cs[off + j]? = some u)
theorem RdL.upd {L : Nat → Option Obj} {v : Value} {n sz p : Nat} {xs : List Value} {o : Obj} (h : RdL L v n sz xs) (hp : L p = none) : RdL (updF L p (some o)) v n sz xs := by
  obtain ⟨h0, a, c, h1, h2⟩ := h
  refine ⟨h0, a, c, h1, fun hn => ?_⟩
  obtain ⟨q, off, cs, t, fr, e1, e2, e3⟩ := h2 hn
  refine ⟨q, off, cs, t, fr, e1, ?_, e3⟩
  rw [updF_ne (fun c => by rw [c, hp] at e2; cases e2)]
  exact e2
theorem RdL.cells {w W : World} {B : Nat} {L : Nat → Option Obj} {f : Nat → Option Rw} {v : Value} {n sz : Nat} {xs : List Value} (h : MR w B L f W) (hr : RdL L v n sz xs) : ∃ a c, v = .slice a n c ∧ (n * sz ≠ 0 → ∃ p off, a = some ⟨p, off, none⟩ ∧ ∀ j u, xs[j]? = some u → W.cell? ⟨p, off + j, none⟩ = some u) := by
  obtain ⟨h0, a, c, h1, h2⟩ := hr
  refine ⟨a, c, h1, fun hn => ?_⟩
  obtain ⟨p, off, cs, t, fr, e1, e2, e3⟩ := h2 hn
  exact ⟨p, off, e1, fun j u hj => blk_cell (h.sb p _ e2) (e3 j u hj)⟩
section
variable {P : Program}
theorem firstCells_zero {x : Value} (h : ∃ a n c, x = .slice a n c) (size : Nat) (w : World) : (Builtin.firstCells size 0 x).run P w = .ok #[] w := by
  obtain ⟨a, n, c, rfl⟩ := h
  cases a with
  | none => rfl
  | some a =>
    simp only [Builtin.firstCells, Nat.zero_mul]
    have := run_firstCells_some (P := P) w size 0 a n c [] (by simp) (fun j x hx => by simp at hx)
    simpa [Builtin.firstCells] using this
theorem run_app_zero (w : World) (t ty e : TypeId) (i : TypeInfo) (ht : P.underlying t = some (.slice e)) (hi : P.info? e = some i) (base : Option Addr) (n cap : Nat) (h : n ≤ cap) (a : Option Addr) (c : Nat) :
    (Builtin.append_ #[t, t] ty #[.slice base n cap, .slice a 0 c]).run P w = .ok (.slice base n cap) w := by
  have hfc := firstCells_zero (P := P) ⟨a, 0, c, rfl⟩ i.size w
  cases base with
  | none => simp [Builtin.append_, run_underlying ht, sizeOf, typeInfo, hi, Builtin.lenOf, h, hfc]
  | some b => simp [Builtin.append_, run_underlying ht, sizeOf, typeInfo, hi, Builtin.lenOf, h, hfc, storeCells]
theorem add_at (p off j : Nat) : (⟨p, off, none⟩ : Addr).add j = ⟨p, off + j, none⟩ := by
  unfold Addr.add
  split
  · rename_i h; subst h; rfl
  · rfl
/-- append of a slice, which may be empty, to a row of the call's own. -/
theorem run_app (w : World) (base : Nat) (t ty e : TypeId) (i : TypeInfo) (z : Value) (size bytes : Nat) (ht : P.underlying t = some (.slice e)) (hi : P.info? e = some i) (hz : i.zero = some z)
    (hsize : i.size = size) (hby : i.bytes = bytes) (hzs : z.cells.size = size) (hsz : 0 < size)
    (v : Value) (n : Nat) (xs : List Value) (hown : w.ownsRow base e size v n xs)
    (a : Option Addr) (m c : Nat) (news : List Value) (hl : news.length = m * size) (hnews : m * size ≠ 0 → ∃ p off, a = some ⟨p, off, none⟩ ∧ ∀ j u, news[j]? = some u → w.cell? ⟨p, off + j, none⟩ = some u) (h1 : ∀ u ∈ news, u.oneCell' = true)
    (h63 : n + m ≤ maxLen) (hbytes : (n + m) * bytes ≤ 140737488355328) (hbase : base ≤ w.heap.size) :
    ∃ v' w', (Builtin.append_ #[t, t] ty #[v, .slice a m c]).run P w = .ok v' w' ∧ w'.ownsRow base e size v' (n + m) (xs ++ news) ∧ w.grownBy w' v.ownBlock ∧ (v'.ownBlock = v.ownBlock ∨ v'.ownBlock = some w.heap.size) := by
  by_cases hm : m = 0
  · subst hm
    obtain rfl : news = [] := List.eq_nil_of_length_eq_zero (by simpa using hl)
    refine ⟨v, w, ?_, by simpa using hown, ⟨rfl, rfl, rfl, Nat.le_refl _, fun _ _ _ => rfl⟩, Or.inl rfl⟩
    rcases hown.2 with ⟨rfl, h5⟩ | ⟨g, cap, cur, rfl, -, -, h4, -⟩
    · subst h5; exact run_app_zero w _ _ _ _ ht hi _ _ _ (Nat.le_refl _) _ _
    · exact run_app_zero w _ _ _ _ ht hi _ _ _ h4 _ _
  · obtain ⟨p, off, rfl, hc⟩ := hnews (Nat.mul_ne_zero hm (by omega))
    obtain ⟨v', w', q1, q2, q3, -, q5⟩ := run_append_own_at (P := P) w base t ty e i z size bytes ht hi hz hsize hby hzs hsz v n xs hown ⟨p, off, none⟩ m c news hl (fun j u hj => by rw [add_at]; exact hc j u hj) h1 h63 hbytes hbase
    exact ⟨v', w', q1, q2, q3, q5⟩
theorem wp_app (w : World) {o : Oper} {a : Act} {K : Act → World → Prop} {Q : Exit → Act → World → Prop} (s x : Operand) (t : TypeId) (ho : o.op = .call { callee := .builtin .append, args := #[s, x], argTypes := #[t, t] })
    (base : Nat) (e : TypeId) (i : TypeInfo) (z : Value) (size bytes : Nat) (ht : P.underlying t = some (.slice e)) (hi : P.info? e = some i) (hz : i.zero = some z)
    (hsize : i.size = size) (hby : i.bytes = bytes) (hzs : z.cells.size = size) (hsz : 0 < size)
    (v : Value) (n : Nat) (xs : List Value) (hs : a.eval s = v) (hown : w.ownsRow base e size v n xs)
    (ad : Option Addr) (m c : Nat) (news : List Value) (hx : a.eval x = .slice ad m c) (hl : news.length = m * size) (hnews : m * size ≠ 0 → ∃ p off, ad = some ⟨p, off, none⟩ ∧ ∀ j u, news[j]? = some u → w.cell? ⟨p, off + j, none⟩ = some u) (h1 : ∀ u ∈ news, u.oneCell' = true)
    (h63 : n + m ≤ maxLen) (hbytes : (n + m) * bytes ≤ 140737488355328) (hbase : base ≤ w.heap.size)
    (h : ∀ v' w', w'.ownsRow base e size v' (n + m) (xs ++ news) → w.grownBy w' v.ownBlock → (v'.ownBlock = v.ownBlock ∨ v'.ownBlock = some w.heap.size) → K (a.put o.dst v') w') : o.wp P a w K Q := by
  obtain ⟨v', w', hr, h2, h3, h5⟩ := run_app (P := P) w base t o.type e i z size bytes ht hi hz hsize hby hzs hsz v n xs hown ad m c news hl hnews h1 h63 hbytes hbase
  unfold Oper.wp execOp
  simp only [ho, resolve, invoke, builtin, Sem.run_bind, Sem.run_pure, Result.andThen_ok, List.map_toArray, List.map_cons, List.map_nil, hs, hx, hr]
  exact h v' w' h2 h3 h5
theorem wpList_app {ops : Array Oper} {rest : List Oper} (w : World) {o : Oper} {a : Act} {Q : Exit → Act → World → Prop} (hgd : o.guard = none) (s x : Operand) (t : TypeId) (ho : o.op = .call { callee := .builtin .append, args := #[s, x], argTypes := #[t, t] })
    (base : Nat) (e : TypeId) (i : TypeInfo) (z : Value) (size bytes : Nat) (ht : P.underlying t = some (.slice e)) (hi : P.info? e = some i) (hz : i.zero = some z)
    (hsize : i.size = size) (hby : i.bytes = bytes) (hzs : z.cells.size = size) (hsz : 0 < size)
    (v : Value) (n : Nat) (xs : List Value) (hs : a.eval s = v) (hown : w.ownsRow base e size v n xs)
    (ad : Option Addr) (m c : Nat) (news : List Value) (hx : a.eval x = .slice ad m c) (hl : news.length = m * size) (hnews : m * size ≠ 0 → ∃ p off, ad = some ⟨p, off, none⟩ ∧ ∀ j u, news[j]? = some u → w.cell? ⟨p, off + j, none⟩ = some u) (h1 : ∀ u ∈ news, u.oneCell' = true)
    (h63 : n + m ≤ maxLen) (hbytes : (n + m) * bytes ≤ 140737488355328) (hbase : base ≤ w.heap.size)
    (h : ∀ v' w', w'.ownsRow base e size v' (n + m) (xs ++ news) → w.grownBy w' v.ownBlock → (v'.ownBlock = v.ownBlock ∨ v'.ownBlock = some w.heap.size) → wpList P ops Q rest (a.put o.dst v') w') : wpList P ops Q (o :: rest) a w :=
  wpList_plain hgd fun _ hK => wp_app w s x t ho base e i z size bytes ht hi hz hsize hby hzs hsz v n xs hs hown ad m c news hx hl hnews h1 h63 hbytes hbase fun v' w' h2 h3 h5 => hK _ _ (h v' w' h2 h3 h5)
end
end Mr
end Go.Proofs.YtdelgbdiofkndaaGreatDoor

/-
  The reference's big: the bytes of a number.
-/
set_option linter.unusedSimpArgs false
set_option linter.unusedVariables false
namespace Go.Proofs.YtdelgbdiofkndaaGreatDoor
open Go.RowKit
/-- The last m bytes of a number. -/
def bigL (n m : Nat) : List Nat := (List.range m).map fun j => n / 256 ^ (m - 1 - j) % 256
theorem bigL_len (n m : Nat) : (bigL n m).length = m := by simp [bigL]
theorem bigL_8 (n : Nat) : bigL n 8 = b8 n := by simp [bigL, b8, List.range_succ]
theorem bigL_get {n m j : Nat} (h : j < m) : (byC (bigL n m))[j]? = some (.int .u8 ((n / 256 ^ (m - 1 - j) % 256 : Nat) : Int)) := by
  unfold byC bigL
  rw [List.getElem?_map, List.getElem?_map, List.getElem?_range h]
  rfl
/-- The block of big behind k rounds. -/
def BgB (B n m k : Nat) (W : World) : Prop := ∃ cs : Array Value, W.heap[B]? = some (.cells cs 5 (0, 0)) ∧ cs.size = m ∧ (∀ j, j < m → ∃ x : Int, cs[j]? = some (.int .u8 x)) ∧ ∀ j, m - k ≤ j → j < m → cs[j]? = (byC (bigL n m))[j]?
theorem BgB.cell {B n m k : Nat} {W : World} (h : BgB B n m k W) {j : Nat} (hj : j < m) : (∃ x : Int, W.cell? ⟨B, j, none⟩ = some (.int .u8 x)) ∧ W.frozen? ⟨B, j, none⟩ = false := by
  obtain ⟨cs, h1, h2, h3, h4⟩ := h
  obtain ⟨x, hx⟩ := h3 j hj
  exact ⟨⟨x, blk_cell h1 hx⟩, blk_free h1⟩
theorem BgB.next {B n m k : Nat} {W : World} (h : BgB B n m k W) (hk : k < m) : BgB B n m (k + 1) (W.setCell ⟨B, m - 1 - k, none⟩ (.int .u8 ((n / 256 ^ k % 256 : Nat) : Int))) := by
  obtain ⟨cs, h1, h2, h3, h4⟩ := h
  refine ⟨_, blk_set h1, by simpa using h2, fun j hj => ?_, fun j hj hjm => ?_⟩
  · rw [Array.getElem?_setIfInBounds]
    by_cases c : m - 1 - k = j
    · rw [if_pos c, if_pos (by omega)]; exact ⟨_, rfl⟩
    · rw [if_neg c]; exact h3 j hj
  · rw [Array.getElem?_setIfInBounds]
    by_cases c : m - 1 - k = j
    · rw [if_pos c, if_pos (by omega), bigL_get hjm, show m - 1 - j = k by omega]
    · rw [if_neg c]; exact h4 j (by omega) hjm
theorem BgB.done {B n m : Nat} {W : World} (h : BgB B n m m W) : W.heap[B]? = some (.cells (byC (bigL n m)).toArray 5 (0, 0)) := by
  obtain ⟨cs, h1, h2, h3, h4⟩ := h
  have e : cs = (byC (bigL n m)).toArray := by
    refine Array.ext_getElem? fun j => ?_
    have e : (byC (bigL n m)).toArray[j]? = (byC (bigL n m))[j]? := by simp
    rw [e]
    by_cases hj : j < m
    · exact h4 j (by omega) hj
    · rw [Array.getElem?_eq_none (by omega), List.getElem?_eq_none (by simp [byC, bigL_len]; omega)]
  rw [← e]
  exact h1
theorem made_u8 (K j : Nat) (hj : j < K) : (madeCells (Value.int .u8 0).cells K)[j]? = some (.int .u8 0) := by
  have hc1 : (Value.int .u8 0).cells = #[.int .u8 0] := rfl
  unfold madeCells
  rw [hc1, Array.getElem?_map, Array.getElem?_range, if_pos (by simpa using hj)]
  simp [Nat.mod_one]
theorem made_u8_size (K : Nat) : (madeCells (Value.int .u8 0).cells K).size = K := by
  have hc1 : (Value.int .u8 0).cells = #[.int .u8 0] := rfl
  unfold madeCells
  rw [hc1]
  simp
set_option maxHeartbeats 1000000 in
set_option maxRecDepth 20000 in
theorem big_any (n m : Nat) (hn : n < 18446744073709551616) (h1 : 1 ≤ m) (hm : m ≤ 8) (w : World) :
    Calls Tryz.prog 39 #[.int .u64 n, .int .i64 m] w fun e w' => e = .returned (.slice (some ⟨w.heap.size, 0, none⟩) m m) ∧ w'.heap[w.heap.size]? = some (.cells (byC (bigL n m)).toArray 5 (0, 0)) ∧ Below w.heap.size w w' := by
  obtain ⟨i0, hi0, hz0, hz1, hz2⟩ := info_parts info8
  have hmk := run_make (P := Tryz.prog) w 26 5 i0 (.int .u8 0) Tryz.underlying26 hi0 hz0 .i64 .i64 (m : Int) (m : Int) (by omega) (Int.le_refl _) (by rw [hz2]; omega) (by omega)
  rw [hz1] at hmk
  simp only [Int.toNat_natCast, Nat.mul_one] at hmk
  have hB0 : Hid (BgB w.heap.size n m 0 (w.alloc (.cells (madeCells (Value.int .u8 0).cells m) 5))) := ⟨_, blk_new w _, made_u8_size m, fun j hj => ⟨0, made_u8 m j hj⟩, fun j hj hjm => by omega⟩
  generalize madeCells (Value.int .u8 0).cells m = C at *
  clear hz0 hz1 hz2 hi0
  go_enter Tryz.func39, Tryz.ntmps39
  go_wp2_with fail
  go_loopw [0, 6] (fun v i wr => ∃ k : Nat, k ≤ m ∧ v = .int .u64 ((n / 256 ^ k : Nat) : Int) ∧ i = .int .i64 ((m : Int) - 1 - k) ∧ Hid (BgB w.heap.size n m k wr) ∧ Hid (Below w.heap.size w wr)) (fun _ i _ => (intOf i + 1).toNat)
  case atStart => exact ⟨0, by omega, by simp, by simp, hB0, Lib.hid bAl''⟩
  case round =>
    obtain ⟨k, hk, rfl, rfl, HB, HW⟩ := hrel
    by_cases hlt : k < m
    · obtain ⟨⟨x, hc⟩, hf⟩ := HB.out.cell (show m - 1 - k < m by omega)
      have hnx := Lib.hid (HB.out.next hlt)
      have hge : (0 : Int) ≤ (m : Int) - 1 - k := by omega
      have hge2 : (m : Int) - 1 - k < m := by omega
      have ei : ((m : Int) - 1 - k) = ((m - 1 - k : Nat) : Int) := by omega
      have ei2 : ((m : Int) - 1 - k).toNat = m - 1 - k := by omega
      have hd2 := Lib.hid (show n / 256 ^ (k + 1) = n / 256 ^ k / 256 by rw [Nat.pow_succ, Nat.div_div_eq_div_mul])
      have hq : n / 256 ^ k < 18446744073709551616 := Nat.lt_of_le_of_lt (Nat.div_le_self _ _) hn
      generalize n / 256 ^ k = q at *
      have e1 : IntKind.u64.wrap ((q : Int).tdiv 256) = ((q / 256 : Nat) : Int) := by
        rw [Int.tdiv_eq_ediv_of_nonneg (by omega)]
        have := Go.IntWalk.u64_in ((q : Int) / 256) ⟨by omega, by omega⟩
        rw [this]; omega
      have e2 : (q : Int).tmod 256 % 256 = ((q % 256 : Nat) : Int) := by
        rw [Int.tmod_eq_emod_of_nonneg (by omega)]; omega
      have e3 : ((q % 256 : Nat) : Int) = (q : Int) % 256 := by omega
      have HWs := Lib.hid (HW.out.setCell (Nat.le_refl _) (p := ⟨w.heap.size, m - 1 - k, none⟩) (.int .u8 ((q % 256 : Nat) : Int)))
      go_wp2_with fail
      refine ⟨⟨k + 1, by omega, by rw [hd2.out]; push_cast; rfl, by rw [← ei]; congr 1; push_cast; omega, by rw [e3] at hnx; exact hnx, by rw [e3] at HWs; exact HWs⟩, ?_⟩
      rw [← ei]
      simp [intOf]
      omega
    · obtain rfl : k = m := by omega
      have hge : ¬ (0 : Int) ≤ (k : Int) - 1 - k := by omega
      have hd := Lib.hid HB.out.done
      go_wp2_with fail
      exact bodyPost_ret (v := .slice (some ⟨w.heap.size, 0, none⟩) k k) (by simp only [results, Tryz.results39]; go_simp) rfl ⟨rfl, hd.out, HW.out⟩
end Go.Proofs.YtdelgbdiofkndaaGreatDoor

/-
  A region that draws its order: operations whose values are known, at most two whose values are not (a slice that is built, an append), and one at the end. Each is carried out in the frame that all of them leave.
-/
set_option linter.unusedSimpArgs false
set_option linter.unusedVariables false
namespace Go.Proofs.YtdelgbdiofkndaaGreatDoor
open Go.RowKit

section
variable {P : Program} {ops : Array Oper} {Q : Exit → Act → World → Prop}

theorem put_inj {y : Act} {d : Nat} {v v' : Value} (hd : d < y.tmps.size) (h : y.put (some d) v = y.put (some d) v') : v = v' := by
  have := congrArg (fun a : Act => a.tmps[d]?) h
  simpa [Act.put, Array.getElem?_setIfInBounds, hd] using this
theorem upon_congr {o : Oper} {x y : Act} {d : Nat} {C : Value → World → Prop} {r : Result Next} (hd : o.dst = some d) (hy : d < y.tmps.size)
    (h : o.upon P y (fun a' w' => ∃ v, a' = y.put (some d) v ∧ C v w') (fun _ _ _ => False) r) : o.upon P x (fun a' w' => ∃ v, a' = x.put (some d) v ∧ C v w') Q r := by
  cases r with
  | ok n w' =>
    cases n with
    | value v =>
      simp only [Oper.upon, hd] at h ⊢
      obtain ⟨v', e, hC⟩ := h
      rw [← put_inj hy e] at hC
      exact ⟨v, rfl, hC⟩
    | skip =>
      simp only [Oper.upon, hd] at h ⊢
      obtain ⟨v', e, hC⟩ := h
      rw [← put_inj hy e] at hC
      exact ⟨_, rfl, hC⟩
    | «defer» df =>
      simp only [Oper.upon, hd] at h
      obtain ⟨v', e, hC⟩ := h
      have := congrArg Act.defers e
      simp [Act.put] at this
    | enter f args =>
      simp only [Oper.upon, hd] at h ⊢
      refine h.mono fun e w'' he => ?_
      cases e with
      | returned v =>
        obtain ⟨v', e, hC⟩ := he
        rw [← put_inj hy e] at hC
        exact ⟨_, rfl, hC⟩
      | panicked c => exact absurd he id
      | outgrown => obtain ⟨_, _, hf⟩ := he; exact absurd hf id
    | row rw_ args =>
      simp only [Oper.upon, hd] at h ⊢
      refine h.mono fun v w'' he => ?_
      obtain ⟨v', e, hC⟩ := he
      rw [← put_inj hy e] at hC
      exact ⟨_, rfl, hC⟩
    | _ => exact absurd h id
  | halt hh w' =>
    cases hh <;> exact absurd h id

def chainB (ops : Array Oper) (N e1 e2 u1 u2 : Nat) : Bool := (List.range N).all fun i => match ops[i]? with
  | none => false
  | some o => o.guard.isNone && plainOp o.op && o.dst.isSome && (o.op.operands.all fun x => match x with
      | .tmp t => decide (t ≠ u2) && (decide (t = u1) || (List.range N).all fun j => decide (dstOf ops j ≠ some t) || (waits ops i).contains j)
      | _ => true) && ((List.range N).all fun j => decide (j = i) || decide (dstOf ops j ≠ dstOf ops i)) &&
      (if i = e1 then decide (dstOf ops i = some u1) else if i = e2 then decide (dstOf ops i = some u2) else decide (dstOf ops i ≠ some u1) && decide (dstOf ops i ≠ some u2))
structure ChainAt (ops : Array Oper) (N e1 e2 u1 u2 i : Nat) (o : Oper) : Prop where
  guard : o.guard = none
  sel : ∀ cs b, o.op ≠ .select cs b
  dst : ∃ d, o.dst = some d
  looks2 : ∀ t, Operand.tmp t ∈ o.op.operands → t ≠ u2
  looks : ∀ t, Operand.tmp t ∈ o.op.operands → t = u1 ∨ ∀ j, j < N → dstOf ops j = some t → j ∈ waits ops i
  one : ∀ j, j < N → j ≠ i → dstOf ops j ≠ dstOf ops i
  at1 : i = e1 → dstOf ops i = some u1
  at2 : i ≠ e1 → i = e2 → dstOf ops i = some u2
  at0 : i ≠ e1 → i ≠ e2 → dstOf ops i ≠ some u1 ∧ dstOf ops i ≠ some u2
theorem chain_at {N e1 e2 u1 u2 i : Nat} {o : Oper} (h : chainB ops N e1 e2 u1 u2 = true) (hi : i < N) (ho : ops[i]? = some o) : ChainAt ops N e1 e2 u1 u2 i o := by
  have h1 := List.all_eq_true.1 h i (List.mem_range.2 hi)
  rw [ho] at h1
  simp only [Bool.and_eq_true] at h1
  obtain ⟨⟨⟨⟨⟨h1, h2⟩, h3⟩, h4⟩, h5⟩, h6⟩ := h1
  have hk : ∀ t, Operand.tmp t ∈ o.op.operands → t ≠ u2 ∧ (t = u1 ∨ ∀ j, j < N → dstOf ops j = some t → j ∈ waits ops i) := by
    intro t ht
    rw [Array.all_eq_true'] at h4
    have h7 := h4 (.tmp t) ht
    simp only [Bool.and_eq_true, Bool.or_eq_true, decide_eq_true_eq] at h7
    refine ⟨h7.1, ?_⟩
    rcases h7.2 with h8 | h8
    · exact Or.inl h8
    · refine Or.inr fun j hj hd => ?_
      have h9 := List.all_eq_true.1 h8 j (List.mem_range.2 hj)
      simp only [Bool.or_eq_true, decide_eq_true_eq] at h9
      rcases h9 with h9 | h9
      · exact absurd hd h9
      · simpa using h9
  refine ⟨by simpa using h1, ?_, Option.isSome_iff_exists.1 h3, fun t ht => (hk t ht).1, fun t ht => (hk t ht).2, ?_, ?_, ?_, ?_⟩
  · intro cs b e; rw [e] at h2; simp [plainOp] at h2
  · intro j hj hne
    have h6 := List.all_eq_true.1 h5 j (List.mem_range.2 hj)
    simp only [Bool.or_eq_true, decide_eq_true_eq] at h6
    rcases h6 with h6 | h6
    · exact absurd h6 hne
    · exact h6
  · intro e; rw [if_pos e] at h6; simpa using h6
  · intro e e'; rw [if_neg e, if_pos e'] at h6; simpa using h6
  · intro e e'; rw [if_neg e, if_neg e'] at h6; simpa using h6

/-- What is asked of the operations whose values are known. -/
def AllRd (Ob : Oper → Prop) (e1 e2 : Nat) : Nat → List Oper → Prop
  | _, [] => True
  | i, o :: l => (i ≠ e1 → i ≠ e2 → Ob o) ∧ AllRd Ob e1 e2 (i + 1) l
theorem AllRd.at_ {Ob : Oper → Prop} {e1 e2 : Nat} : ∀ {l : List Oper} {k : Nat}, AllRd Ob e1 e2 k l → ∀ (i : Nat) (o : Oper), l[i]? = some o → k + i ≠ e1 → k + i ≠ e2 → Ob o := by
  intro l
  induction l with
  | nil => intro _ _ i o h; simp at h
  | cons x l ih =>
    intro k h i o ho n1 n2
    cases i with
    | zero => simp at ho; subst ho; exact h.1 n1 n2
    | succ i => exact ih h.2 i o (by simpa using ho) (by omega) (by omega)
def RdOb (P : Program) (St : Bool → Bool → Value → Value → World → Prop) (AF : Act) (u1 : Nat) (o : Oper) : Prop :=
  ∃ d v, o.dst = some d ∧ AF.tmps[d]? = some v ∧ ∀ b1 b2 v1 v2 W, St b1 b2 v1 v2 W → ∀ (K : Act → World → Prop) (Q : Exit → Act → World → Prop), (∀ W', St b1 b2 v1 v2 W' → K ((AF.put (some u1) v1).put (some d) v) W') → o.wp P (AF.put (some u1) v1) W K Q

theorem put_at (a : Act) (d t : Nat) (v : Value) : (a.put (some d) v).tmps[t]? = if d = t then (if d < a.tmps.size then some v else none) else a.tmps[t]? := by
  simp only [Act.put, Array.getElem?_setIfInBounds]
theorem actGet_of {a : Act} {t : Nat} (h : t < a.tmps.size) : a.tmps[t]? = some (a.tmps.getD t undef) := by
  rw [Array.getD_eq_getD_getElem?, Array.getElem?_eq_getElem h]; rfl
theorem actGet_none {a : Act} {t : Nat} (h : ¬ t < a.tmps.size) : a.tmps[t]? = none := by
  rw [Array.getElem?_eq_none_iff]; omega

theorem act_ext {p q : Act} (h1 : p.tmps = q.tmps) (h2 : p.defers = q.defers) : p = q := by
  obtain ⟨a, b⟩ := p
  obtain ⟨c, d⟩ := q
  dsimp only at h1 h2
  rw [h1, h2]

/-- THE RULE. -/
theorem region_chain {id : Nat} {a : Act} {w : World} (N e1 e2 u1 u2 f : Nat) (vals : List (Nat × Value)) (St : Bool → Bool → Value → Value → World → Prop) (hm : P.follows .mixedOrders = true) (he : early ops = true) (hs0 : ops.size = N + 1)
    (hA : ((List.range N).all fun j => (ancs ops f N).contains j) = true) (hE : (decide (N < e2) || ((waits ops e2).contains e1) && decide (e1 < e2)) = true) (hH : chainB ops N e1 e2 u1 u2 = true) (hN1 : e1 ≠ N) (hN2 : e2 ≠ N) (hu : u1 ≠ u2) (hsu1 : e1 < N → u1 < a.tmps.size) (hsu2 : e2 < N → u2 < a.tmps.size)
    (hds : vals.map (fun p => some p.1) = ((List.range N).filter fun i => decide (i ≠ e1) && decide (i ≠ e2)).map (dstOf ops))
    (h0 : ∀ v1 v2, St false false v1 v2 w.drew) (reads : AllRd (RdOb P St (updAll a vals) u1) e1 e2 0 (ops.toList.take N))
    (eff1 : ∀ o, ops[e1]? = some o → ∀ v1 v2 W, St false false v1 v2 W → ∀ (K : Act → World → Prop) (Q : Exit → Act → World → Prop), (∀ v W', St true false v v2 W' → K (((updAll a vals).put (some u1) v1).put (some u1) v) W') → o.wp P ((updAll a vals).put (some u1) v1) W K Q)
    (eff2 : ∀ o, ops[e2]? = some o → ∀ v1 v2 W, St true false v1 v2 W → ∀ (K : Act → World → Prop) (Q : Exit → Act → World → Prop), (∀ v W', St true true v1 v W' → K (((updAll a vals).put (some u1) v1).put (some u2) v) W') → o.wp P ((updAll a vals).put (some u1) v1) W K Q)
    (tail : ∀ v1 v2 W, St (decide (e1 < N)) (decide (e2 < N)) v1 v2 W → wpOp P ops Q N (fun a2 w2 => Q .normal a2 w2) (((updAll a vals).put (some u1) v1).put (some u2) v2) W) :
    (Code.region id ops true).wp P Q a w := by
  have hA' : ∀ j, j < N → j ∈ ancs ops f N := fun j hj => by simpa using List.all_eq_true.1 hA j (List.mem_range.2 hj)
  have hsame : ∀ t, (∀ j, j < N → j ≠ e1 → j ≠ e2 → dstOf ops j ≠ some t) → (updAll a vals).tmps[t]? = a.tmps[t]? := fun t ht => updAll_same _ _ _ fun p hp e => by
    have h1 : some p.1 ∈ vals.map (fun p => some p.1) := List.mem_map.2 ⟨p, hp, rfl⟩
    rw [hds] at h1
    obtain ⟨j, hj, hjd⟩ := List.mem_map.1 h1
    obtain ⟨hj1, hj2⟩ := List.mem_filter.1 hj
    simp only [Bool.and_eq_true, decide_eq_true_eq] at hj2
    exact ht j (List.mem_range.1 hj1) hj2.1 hj2.2 (by rw [hjd, e])
  have hdf : (updAll a vals).defers = a.defers := updAll_defers _ _
  have hsz : (updAll a vals).tmps.size = a.tmps.size := updAll_size _ _
  have hval : ∀ i o, i < N → ops[i]? = some o → i ≠ e1 → i ≠ e2 → RdOb P St (updAll a vals) u1 o := fun i o hi ho n1 n2 => reads.at_ i o (by
    rw [List.getElem?_take_of_lt hi, Array.getElem?_toList]; exact ho) (by omega) (by omega)
  generalize updAll a vals = AF at *
  refine region_inv hm he (fun l x W => l.size = ops.size ∧ Shut ops l ∧ ((l.getD N false = true ∧ Q .normal x W) ∨ (l.getD N true = false ∧ x.defers = a.defers ∧ x.tmps.size = a.tmps.size ∧
    (∀ j, j < N → j ≠ e1 → j ≠ e2 → l.getD j false = true → ∀ t, dstOf ops j = some t → x.tmps[t]? = AF.tmps[t]?) ∧
    (∀ t, (∀ j, j < N → dstOf ops j = some t → l.getD j false = false) → x.tmps[t]? = a.tmps[t]?) ∧ St (l.getD e1 false) (l.getD e2 false) (x.tmps.getD u1 undef) (x.tmps.getD u2 undef) W))) ?_ (fun l a w h => h.1) ?_ ?_
  · refine ⟨by simp, ?_, Or.inr ⟨?_, rfl, rfl, fun j hj _ _ h => ?_, fun _ _ => rfl, ?_⟩⟩
    · intro i hi
      rw [Array.getD_eq_getD_getElem?] at hi
      by_cases h : i < ops.size <;> simp [h] at hi
    · rw [Array.getD_eq_getD_getElem?]; simp [hs0]
    · rw [Array.getD_eq_getD_getElem?] at h
      simp [hs0, show j < N + 1 by omega] at h
    · have e : ∀ k, (Array.replicate ops.size false).getD k false = false := by
        intro k
        rw [Array.getD_eq_getD_getElem?]
        by_cases h : k < ops.size <;> simp [h]
      rw [e, e]
      exact h0 _ _
  · rintro i o ho l x W ⟨hs, hS, hJ⟩ hl hd
    have hio : i < ops.size := (Array.getElem?_eq_some_iff.1 ho).1
    have hil : i < l.size := by rw [hs]; exact hio
    have hw := waits_ok ho hd
    have hS2 := hS.set hil hw
    have hs2 : (l.setIfInBounds i true).size = ops.size := by simpa using hs
    rcases hJ with ⟨j1, _⟩ | ⟨jN, x1, x2, x3, x4, x5⟩
    · rcases Nat.lt_or_ge i N with hi | hi
      · exact absurd (hS.anc f N j1 i (hA' i hi)) (by rw [getD_tf hl]; decide)
      · obtain rfl : i = N := by omega
        exact absurd j1 (by rw [getD_tf hl]; decide)
    rcases Nat.lt_or_ge i N with hi | hi
    · have hC := chain_at hH hi ho
      obtain ⟨d, hd1⟩ := hC.dst
      have hdi : dstOf ops i = some d := by unfold dstOf; rw [ho]; exact hd1
      -- the operands look alike
      have hev : ∀ y ∈ o.op.operands, x.eval y = (AF.put (some u1) (x.tmps.getD u1 undef)).eval y := by
        intro y hy
        refine eval_same fun t ht => ?_
        subst ht
        have n2 := hC.looks2 t hy
        rw [put_at]
        by_cases c1 : u1 = t
        · rw [if_pos c1]
          subst c1
          by_cases hlt : u1 < x.tmps.size
          · rw [if_pos (by rw [hsz, ← x2]; exact hlt), actGet_of hlt]
          · rw [if_neg (by rw [hsz, ← x2]; exact hlt), actGet_none hlt]
        · rw [if_neg c1]
          rcases hC.looks t hy with c2 | c2
          · exact absurd c2.symm c1
          by_cases hc : ∃ j, j < N ∧ dstOf ops j = some t
          · obtain ⟨j, hj, hjt⟩ := hc
            have hoj : ops[j]? = some ops[j] := Array.getElem?_eq_getElem (by omega)
            have hCj := chain_at hH hj hoj
            have m1 : j ≠ e1 := fun e => by have := hCj.at1 e; rw [hjt] at this; exact c1 (Option.some.inj this).symm
            have m2 : j ≠ e2 := fun e => by have := hCj.at2 m1 e; rw [hjt] at this; exact n2 (Option.some.inj this)
            exact x3 j hj m1 m2 (hw j (c2 j hj hjt)) t hjt
          · have hno : ∀ j, j < N → dstOf ops j ≠ some t := fun j hj e => hc ⟨j, hj, e⟩
            rw [x4 t (fun j hj e => absurd e (hno j hj)), hsame t (fun j hj _ _ => hno j hj)]
      have hex := execOp_congr o hC.sel hev
      by_cases hdlt : d < a.tmps.size
      · have hlt : d < x.tmps.size := by rw [x2]; exact hdlt
        have hAFlt : d < (AF.put (some u1) (x.tmps.getD u1 undef)).tmps.size := by simpa [Act.put, hsz] using hdlt
        -- the frame and the flags behind it
        have hput : ∀ (C : Value → World → Prop), (∀ (K : Act → World → Prop) (Q : Exit → Act → World → Prop), (∀ v W', C v W' → K ((AF.put (some u1) (x.tmps.getD u1 undef)).put (some d) v) W') → o.wp P (AF.put (some u1) (x.tmps.getD u1 undef)) W K Q) → wpOp P ops Q i (fun a' w' => ∃ v, a' = x.put (some d) v ∧ C v w') x W := by
          intro C hC2
          unfold wpOp
          rw [ho]
          simp only [Region.wanted, hC.guard, if_true]
          refine Or.inl ?_
          have h1 := hC2 (fun a' w' => ∃ v, a' = (AF.put (some u1) (x.tmps.getD u1 undef)).put (some d) v ∧ C v w') (fun _ _ _ => False) (fun v W' h => ⟨v, rfl, h⟩)
          unfold Oper.wp at h1 ⊢
          rw [hex]
          exact upon_congr hd1 hAFlt h1
        have hfr : ∀ v W', (i ≠ e1 → i ≠ e2 → AF.tmps[d]? = some v) → St ((l.setIfInBounds i true).getD e1 false) ((l.setIfInBounds i true).getD e2 false) ((x.put (some d) v).tmps.getD u1 undef) ((x.put (some d) v).tmps.getD u2 undef) W' →
            ((l.setIfInBounds i true).size = ops.size ∧ Shut ops (l.setIfInBounds i true) ∧ (((l.setIfInBounds i true).getD N false = true ∧ Q .normal (x.put (some d) v) W') ∨ ((l.setIfInBounds i true).getD N true = false ∧ (x.put (some d) v).defers = a.defers ∧ (x.put (some d) v).tmps.size = a.tmps.size ∧
    (∀ j, j < N → j ≠ e1 → j ≠ e2 → (l.setIfInBounds i true).getD j false = true → ∀ t, dstOf ops j = some t → (x.put (some d) v).tmps[t]? = AF.tmps[t]?) ∧
    (∀ t, (∀ j, j < N → dstOf ops j = some t → (l.setIfInBounds i true).getD j false = false) → (x.put (some d) v).tmps[t]? = a.tmps[t]?) ∧ St ((l.setIfInBounds i true).getD e1 false) ((l.setIfInBounds i true).getD e2 false) ((x.put (some d) v).tmps.getD u1 undef) ((x.put (some d) v).tmps.getD u2 undef) W'))) := by
          intro v W' hv hSt
          refine ⟨hs2, hS2, Or.inr ⟨?_, x1, by simpa [Act.put] using x2, ?_, ?_, hSt⟩⟩
          · rw [getD_set1 hil, if_neg (by omega)]; exact jN
          · intro j hj m1 m2 hjl t hjt
            rw [put_at]
            by_cases e : d = t
            · subst e
              rw [if_pos rfl, if_pos hlt]
              have hji : j = i := Classical.byContradiction fun c => hC.one j hj c (by rw [hjt, hdi])
              subst hji
              exact (hv m1 m2).symm
            · rw [if_neg e]
              have hji : j ≠ i := fun c => by subst c; rw [hdi] at hjt; exact e (Option.some.inj hjt)
              rw [getD_set1 hil, if_neg (fun c => hji c.symm)] at hjl
              exact x3 j hj m1 m2 hjl t hjt
          · intro t ht
            rw [put_at]
            have hdt : d ≠ t := fun c => by
              subst c
              have := ht i hi hdi
              rw [getD_set1 hil, if_pos rfl] at this
              cases this
            rw [if_neg hdt]
            refine x4 t fun j hj hjt => ?_
            have := ht j hj hjt
            rw [getD_set1 hil] at this
            split at this
            · cases this
            · exact this
        have hgd : ∀ (v : Value) (t : Nat), (x.put (some d) v).tmps.getD t undef = if d = t then v else x.tmps.getD t undef := by
          intro v t
          rw [Array.getD_eq_getD_getElem?, put_at]
          by_cases e : d = t
          · rw [if_pos e, if_pos e, if_pos hlt]; rfl
          · rw [if_neg e, if_neg e, Array.getD_eq_getD_getElem?]
        by_cases c1 : i = e1
        · subst c1
          have hd2 := hC.at1 rfl
          rw [hdi] at hd2
          obtain rfl : d = u1 := Option.some.inj hd2
          have hb1 : l.getD i false = false := getD_tf hl
          have hb2 : l.getD e2 false = false := by
            cases hb : l.getD e2 false with
            | false => rfl
            | true =>
              exfalso
              simp only [Bool.or_eq_true, Bool.and_eq_true, decide_eq_true_eq] at hE
              rcases hE with hE | hE
              · rw [Array.getD_eq_getD_getElem?, Array.getElem?_eq_none_iff.2 (by omega)] at hb
                cases hb
              · have := hS e2 hb i (by simpa using hE.1)
                rw [hb1] at this; cases this
          rw [hb1, hb2] at x5
          refine wpOp_mono ?_ (hput (fun v W' => St true false v (x.tmps.getD u2 undef) W') (fun K Q hK => eff1 o ho _ _ W x5 K Q hK))
          rintro a' w' ⟨v, rfl, hv⟩
          refine hfr v w' (fun c => absurd rfl c) ?_
          rw [getD_set1 hil, if_pos rfl, getD_set1 hil, hgd, hgd, if_pos rfl, if_neg hu]
          have : ¬ i = e2 := fun e => by
            simp only [Bool.or_eq_true, Bool.and_eq_true, decide_eq_true_eq] at hE
            omega
          rw [if_neg this, hb2]
          exact hv
        · by_cases c2 : i = e2
          · subst c2
            have hd2 := hC.at2 c1 rfl
            rw [hdi] at hd2
            obtain rfl : d = u2 := Option.some.inj hd2
            have hb2 : l.getD i false = false := getD_tf hl
            have hb1 : l.getD e1 false = true := by
              simp only [Bool.or_eq_true, Bool.and_eq_true, decide_eq_true_eq] at hE
              rcases hE with hE | hE
              · omega
              · exact hw e1 (by simpa using hE.1)
            rw [hb1, hb2] at x5
            refine wpOp_mono ?_ (hput (fun v W' => St true true (x.tmps.getD u1 undef) v W') (fun K Q hK => eff2 o ho _ _ W x5 K Q hK))
            rintro a' w' ⟨v, rfl, hv⟩
            refine hfr v w' (fun _ c => absurd rfl c) ?_
            rw [getD_set1 hil, getD_set1 hil, if_pos rfl, hgd, hgd, if_pos rfl, if_neg (Ne.symm hu), if_neg c1, hb1]
            exact hv
          · obtain ⟨d', v, g1, g2, g3⟩ := hval i o hi ho c1 c2
            rw [hd1] at g1
            obtain rfl : d = d' := Option.some.inj g1
            obtain ⟨k1, k2⟩ := hC.at0 c1 c2
            rw [hdi] at k1 k2
            have k1' : d ≠ u1 := fun e => k1 (by rw [e])
            have k2' : d ≠ u2 := fun e => k2 (by rw [e])
            refine wpOp_mono ?_ (hput (fun v' W' => v' = v ∧ St (l.getD e1 false) (l.getD e2 false) (x.tmps.getD u1 undef) (x.tmps.getD u2 undef) W') (fun K Q hK => g3 _ _ _ _ W x5 K Q (fun W' h => hK v W' ⟨rfl, h⟩)))
            rintro a' w' ⟨v', rfl, rfl, hv⟩
            refine hfr v' w' (fun _ _ => g2) ?_
            rw [getD_set1 hil, getD_set1 hil, hgd, hgd, if_neg k1', if_neg k2', if_neg c1, if_neg c2]
            exact hv
      · -- no such slot: cannot be
        exfalso
        by_cases c1 : i = e1
        · have hd2 := hC.at1 c1
          rw [hdi] at hd2
          have := hsu1 (by omega)
          rw [← Option.some.inj hd2] at this
          exact hdlt this
        · by_cases c2 : i = e2
          · have hd2 := hC.at2 c1 c2
            rw [hdi] at hd2
            have := hsu2 (by omega)
            rw [← Option.some.inj hd2] at this
            exact hdlt this
          · obtain ⟨d', v, g1, g2, g3⟩ := hval i o hi ho c1 c2
            rw [hd1] at g1
            obtain rfl : d = d' := Option.some.inj g1
            have := (Array.getElem?_eq_some_iff.1 g2).1
            rw [hsz] at this
            exact hdlt this
    · obtain rfl : i = N := by omega
      have hall : ∀ j, j < i → l.getD j false = true := by
        intro j hj
        have := hS2.anc f i (by rw [getD_set1 hil, if_pos rfl]) j (hA' j hj)
        rwa [getD_set1 hil, if_neg (by omega)] at this
      have hfl : ∀ e, e ≠ i → l.getD e false = decide (e < i) := by
        intro e hne
        rcases Nat.lt_or_ge e i with h | h
        · rw [hall e h]; simp [h]
        · rw [Array.getD_eq_getD_getElem?, Array.getElem?_eq_none_iff.2 (by omega)]
          simp; omega
      rw [hfl e1 hN1, hfl e2 hN2] at x5
      have hx : x = ((AF.put (some u1) (x.tmps.getD u1 undef)).put (some u2) (x.tmps.getD u2 undef)) := by
        have e1' : x.tmps = ((AF.put (some u1) (x.tmps.getD u1 undef)).put (some u2) (x.tmps.getD u2 undef)).tmps := by
          refine Array.ext_getElem? fun t => ?_
          have hs3 : (AF.put (some u1) (x.tmps.getD u1 undef)).tmps.size = x.tmps.size := by rw [x2, ← hsz]; simp [Act.put]
          rw [put_at, hs3]
          by_cases c2 : u2 = t
          · subst c2
            rw [if_pos rfl]
            by_cases hlt : u2 < x.tmps.size
            · rw [if_pos hlt, actGet_of hlt]
            · rw [if_neg hlt, actGet_none hlt]
          · rw [if_neg c2, put_at, hsz, ← x2]
            by_cases c1 : u1 = t
            · subst c1
              rw [if_pos rfl]
              by_cases hlt : u1 < x.tmps.size
              · rw [if_pos hlt, actGet_of hlt]
              · rw [if_neg hlt, actGet_none hlt]
            · rw [if_neg c1]
              by_cases hc : ∃ j, j < i ∧ dstOf ops j = some t
              · obtain ⟨j, hj, hjt⟩ := hc
                have hoj : ops[j]? = some ops[j] := Array.getElem?_eq_getElem (by omega)
                have hCj := chain_at hH hj hoj
                have m1 : j ≠ e1 := fun e => by have := hCj.at1 e; rw [hjt] at this; exact c1 (Option.some.inj this).symm
                have m2 : j ≠ e2 := fun e => by have := hCj.at2 m1 e; rw [hjt] at this; exact c2 (Option.some.inj this).symm
                exact x3 j hj m1 m2 (hall j hj) t hjt
              · have hno : ∀ j, j < i → dstOf ops j ≠ some t := fun j hj e => hc ⟨j, hj, e⟩
                rw [x4 t (fun j hj e => absurd e (hno j hj)), hsame t (fun j hj _ _ => hno j hj)]
        have e2' : x.defers = ((AF.put (some u1) (x.tmps.getD u1 undef)).put (some u2) (x.tmps.getD u2 undef)).defers := by rw [x1, ← hdf]; rfl
        exact act_ext e1' e2'
      have ht := tail _ _ W x5
      rw [← hx] at ht
      refine wpOp_mono ?_ ht
      intro a' w' h
      exact ⟨hs2, hS2, Or.inl ⟨by rw [getD_set1 hil, if_pos rfl], h⟩⟩
  · rintro l x W ⟨hs, hS, hJ⟩ hall
    rcases hJ with ⟨_, j⟩ | ⟨j, _⟩
    · exact j
    · rw [hall N (by omega)] at j; cases j
end

end Go.Proofs.YtdelgbdiofkndaaGreatDoor
