/-
 secrets of package passport: whole.
-/
import Derived.Test.YtmpilgkfbibhlaaGreatDoorG18R
import Derived.Test.YtmpilgkfbibhlaaGreatDoorG5R
import Derived.Test.YtmpilgkfbibhlaaGreatDoorG17R
import Derived.Test.YtmpilgkfbibhlaaGreatDoorG12R
import Derived.Test.YtmpilgkfbibhlaaGreatDoorG4R
import Derived.Test.YtmpilgkfbibhlaaGreatDoorG0R
import Derived.Test.YtmpilgkfbibhlaaGreatDoorG6R
import Derived.Deep.MidRow
import Derived.Deep.Cut
set_option linter.unusedSimpArgs false
set_option linter.unusedVariables false
namespace Go.Proofs.YtmpilgkfbibhlaaGreatDoor
open Go.RowKit
theorem bkstep {a : Option Addr} {bks : List Bk} {W w2 : World} (hb : Below W.heap.size W w2) (h : BksAt a bks W) : BksAt a bks (w2.alloc (.cells #[.int .u64 2147483647] 22)) := (h.step hb).step Mr.bAl
set_option maxHeartbeats 2000000 in
set_option maxRecDepth 20000 in
theorem Secrets_any {a : Option Addr} {bks : List Bk} {w : World} (pt c : Nat) (h : BksAt a bks w) (hl : bks.length ≤ 1000000 ∧ ∀ bk ∈ bks, bk.2.length ≤ 1000000) :
  Calls Tryz.prog 38 #[.int .u64 (pt : Int), .slice a bks.length c] w fun e w' => e = .returned (.int .i64 (secR pt bks)) ∧ Below w.heap.size w w' := by
 have CL := Lib.hid (large_any w)
 have H0 := Lib.hid h
 have HLL := Lib.hid hl
 clear h hl
 unfold secR
 by_cases c1 : pt < 1
 ·rw [if_pos (Or.inl c1)]
  have d1 : (pt : Int) < 1 := by omega
  clear c1
  go_enter Tryz.func38, Tryz.ntmps38
  go_wp2_with (go_at_call 40; refine CL.out.mono ?_; rintro e w1 ⟨B0, off0, rfl, h1, h2, h3, h4, hb1⟩; have HX1 := Lib.hid (And.intro hb1 (bkstep hb1 H0.out)); clear h1 h4)
  exact bodyPost_ret (v := .int .i64 3) (by simp only [results, Tryz.results38]; go_simp) rfl ⟨rfl, bStep HX1.out.1 Mr.bAl⟩
 ·by_cases c2 : P31 ≤ pt
  ·rw [if_pos (Or.inr c2)]
   have d1 : ¬ (pt : Int) < 1 := by omega
   have d2 : (2147483647 : Int) ≤ pt := by unfold P31 at c2; omega
   clear c1 c2
   go_enter Tryz.func38, Tryz.ntmps38
   go_wp2_with (go_at_call 40; refine CL.out.mono ?_; rintro e w1 ⟨B0, off0, rfl, h1, h2, h3, h4, hb1⟩; have HX1 := Lib.hid (And.intro hb1 (bkstep hb1 H0.out)); clear h1 h4)
   exact bodyPost_ret (v := .int .i64 3) (by simp only [results, Tryz.results38]; go_simp) rfl ⟨rfl, bStep HX1.out.1 Mr.bAl⟩
  ·rw [if_neg (fun e => e.elim c1 c2)]
   have d1 : decide ((pt : Int) < 1) = false := decide_eq_false (by omega)
   have d2 : decide ((2147483647 : Int) ≤ pt) = false := decide_eq_false (by unfold P31 at c2; omega)
   clear c1 c2
   have CH := Lib.hid (fun (W : World) (B : Nat) (hh : BksAt a bks W) (hB : B < W.heap.size) (hcc : W.cell? ⟨B, 0, none⟩ = some (.int .u64 2147483647)) => hasBad_any (w := W) c B hh HLL.out hB hcc)
   clear HLL
   generalize bks.length = n at *
   generalize bks.any badBk = r at *
   by_cases c3 : n < 1
   ·rw [if_pos (Or.inl c3)]
    have d3 : (n : Int) < 1 := by omega
    clear c3
    go_enter Tryz.func38, Tryz.ntmps38
    go_wp2_with (go_at_call 40; refine CL.out.mono ?_; rintro e w1 ⟨B0, off0, rfl, h1, h2, h3, h4, hb1⟩; have HX1 := Lib.hid (And.intro hb1 (bkstep hb1 H0.out)); clear h1 h4)
    exact bodyPost_ret (v := .int .i64 2) (by simp only [results, Tryz.results38]; go_simp) rfl ⟨rfl, bStep HX1.out.1 Mr.bAl⟩
   ·by_cases c4 : 8 < n
    ·rw [if_pos (Or.inr (Or.inl c4))]
     have d3 : ¬ (n : Int) < 1 := by omega
     have d4 : (8 : Int) < n := by omega
     clear c3 c4
     go_enter Tryz.func38, Tryz.ntmps38
     go_wp2_with (go_at_call 40; refine CL.out.mono ?_; rintro e w1 ⟨B0, off0, rfl, h1, h2, h3, h4, hb1⟩; have HX1 := Lib.hid (And.intro hb1 (bkstep hb1 H0.out)); clear h1 h4)
     exact bodyPost_ret (v := .int .i64 2) (by simp only [results, Tryz.results38]; go_simp) rfl ⟨rfl, bStep HX1.out.1 Mr.bAl⟩
    ·have hs : (if n < 1 ∨ 8 < n ∨ r = true then (2 : Int) else 0) = (bif r then 2 else 0) := by
      cases r
      ·rw [if_neg (by rintro (e | e | e); exact c3 e; exact c4 e; cases e)]; rfl
      ·rw [if_pos (Or.inr (Or.inr rfl))]; rfl
     rw [hs]
     have d3 : ¬ (n : Int) < 1 := by omega
     have d4 : ¬ (8 : Int) < n := by omega
     clear c3 c4 hs
     cases r
     ·go_enter Tryz.func38, Tryz.ntmps38
      go_wp2_with (first | (go_at_call 40; refine CL.out.mono ?_; rintro e w1 ⟨B0, off0, rfl, h1, h2, h3, h4, hb1⟩; have HX1 := Lib.hid (And.intro hb1 (bkstep hb1 H0.out)); clear h1 h4) | (go_at_call 95; refine (CH.out _ _ HX1.out.2 (by simp) (by go_simp)).mono ?_; rintro e w2 ⟨rfl, hb2⟩))
      exact bodyPost_ret (v := .int .i64 0) (by simp only [results, Tryz.results38]; go_simp) rfl ⟨rfl, bStep HX1.out.1 (bStep Mr.bAl hb2)⟩
     ·go_enter Tryz.func38, Tryz.ntmps38
      go_wp2_with (first | (go_at_call 40; refine CL.out.mono ?_; rintro e w1 ⟨B0, off0, rfl, h1, h2, h3, h4, hb1⟩; have HX1 := Lib.hid (And.intro hb1 (bkstep hb1 H0.out)); clear h1 h4) | (go_at_call 95; refine (CH.out _ _ HX1.out.2 (by simp) (by go_simp)).mono ?_; rintro e w2 ⟨rfl, hb2⟩))
      exact bodyPost_ret (v := .int .i64 2) (by simp only [results, Tryz.results38]; go_simp) rfl ⟨rfl, bStep HX1.out.1 (bStep Mr.bAl hb2)⟩
end Go.Proofs.YtmpilgkfbibhlaaGreatDoor
namespace Go.Proofs.YtmpilgkfbibhlaaGreatDoor
open Go.RowKit Mr
theorem raw_ok (e : Evt) (w : World) (hok : okX e = true) (h1 : e.2.2.2.2.1.size ≤ 100 ∧ e.2.2.2.2.2.size ≤ 100) :
  Calls Tryz.prog 105 #[evX e] w fun en w' => ∃ p c, en = .returned (.slice p (bytX e).length c) ∧ BytV p (bytX e) w' ∧ Below w.heap.size w w' := by
 obtain ⟨k, t, a, b, nm, ot⟩ := e
 change okE k t a b nm ot = true at hok
 obtain ⟨he, -, -⟩ := okE_ev hok
 have q1 := he.k; have q2 := he.t; have q3 := he.a; have q4 := he.b
 unfold evL at q1 q2 q3 q4
 dsimp only at q1 q2 q3 q4 h1
 obtain ⟨k, rfl⟩ := Int.eq_ofNat_of_zero_le (show 0 ≤ k by omega)
 obtain ⟨t, rfl⟩ := Int.eq_ofNat_of_zero_le (show 0 ≤ t by omega)
 obtain ⟨a, rfl⟩ := Int.eq_ofNat_of_zero_le (show 0 ≤ a by omega)
 obtain ⟨b, rfl⟩ := Int.eq_ofNat_of_zero_le (show 0 ≤ b by omega)
 refine (raw_any k t a b nm ot w ⟨by omega, by omega⟩ (by omega) (by omega) (by omega) h1.1 h1.2).mono fun e w' h => ?_
 obtain ⟨v, rfl, hv, hb⟩ := h
 rw [bytesE_is] at hv
 obtain ⟨p, c, rfl, hB⟩ := own_byt hv
 exact ⟨p, c, rfl, hB, hb⟩
theorem bytX_byt (e : Evt) (hok : okX e = true) (h1 : e.2.2.2.2.1.size ≤ 100 ∧ e.2.2.2.2.2.size ≤ 100) : Byt (bytX e) := by
 obtain ⟨k, t, a, b, nm, ot⟩ := e
 change okE k t a b nm ot = true at hok
 have O1 := okE_ev hok
 exact bytesE_byt (e := evL k t a b nm ot) O1.1.k.2 (by have := h1.1; rw [Lib.size_eq] at this; exact this) (by have := h1.2; rw [Lib.size_eq] at this; exact this)
theorem byt_news {p : Option Addr} {m : List Nat} {W : World} (h : BytV p m W) : m.length * 1 ≠ 0 → ∃ q off, p = some ⟨q, off, none⟩ ∧ ∀ (j : Nat) (u : Value), (byC m)[j]? = some u → W.cell? ⟨q, off + j, none⟩ = some u := fun hm => by
 obtain ⟨b, off, rfl, -, h2⟩ := h (by rintro rfl; simp at hm)
 refine ⟨b, off, rfl, fun j u hj => ?_⟩
 unfold byC at hj
 rw [List.getElem?_map] at hj
 cases hq : m[j]? with
 | none => rw [hq] at hj; cases hj
 | some n =>
  rw [hq] at hj
  simp at hj
  rw [h2 j (List.getElem?_eq_some_iff.1 hq).1, List.getD_eq_getElem?_getD, hq, ← hj]
  rfl
theorem u8_nat (n : Nat) : IntKind.u8.wrap (n : Int) = ((n % 256 : Nat) : Int) := by
 show (n : Int) % 256 = _
 omega
structure Nx1 (W0 : World) (m : List Nat) (b0 b1 : Bool) (v0 v1 : Value) (W : World) : Prop where
 bel : Below W0.heap.size W0 W
 r0 : b0 = true → W.ownsRow W0.heap.size 5 1 v0 m.length (byC m)
 r1 : b1 = true → v1 = v0
 n : b0 = false → b1 = false
end Go.Proofs.YtmpilgkfbibhlaaGreatDoor
namespace Go.Proofs.YtmpilgkfbibhlaaGreatDoor
open Go.RowKit Mr
def zeroE : Array Value := #[.int .i64 0, .int .i64 0, .int .i64 0, .int .i64 0, .string ⟨#[]⟩, .string ⟨#[]⟩, .int .i64 0, .int .i64 0, .int .u64 0, .int .u64 0]
def entC : Ent → List Value
 | ((k, t, a, b, nm, ot), by_, pad, head, tag) => [.int .i64 k, .int .i64 t, .int .i64 a, .int .i64 b, .string nm, .string ot, .int .i64 by_, .int .i64 pad, .int .u64 (head : Int), .int .u64 (tag : Int)]
def entX (y : Ent) : Value := .agg (entC y).toArray
theorem big4 (head : Nat) : [Value.int .u8 (IntKind.u8.wrap ((head : Int) / 16777216)), .int .u8 (IntKind.u8.wrap ((head : Int) / 65536)), .int .u8 (IntKind.u8.wrap ((head : Int) / 256)), .int .u8 (IntKind.u8.wrap (head : Int))] = byC (bigL head 4) := by
 have e1 : (head : Int) / 16777216 = ((head / 16777216 : Nat) : Int) := by omega
 have e2 : (head : Int) / 65536 = ((head / 65536 : Nat) : Int) := by omega
 have e3 : (head : Int) / 256 = ((head / 256 : Nat) : Int) := by omega
 rw [e1, e2, e3, u8_nat, u8_nat, u8_nat, u8_nat]
 simp [bigL, byC, List.range_succ]
theorem nx_row (W : World) (head : Nat) : (W.alloc (.cells #[.int .u8 (IntKind.u8.wrap ((head : Int) / 16777216)), .int .u8 (IntKind.u8.wrap ((head : Int) / 65536)), .int .u8 (IntKind.u8.wrap ((head : Int) / 256)), .int .u8 (IntKind.u8.wrap (head : Int))] 5)).ownsRow W.heap.size 5 1 (.slice (some ⟨W.heap.size, 0, none⟩) 4 4) (bigL head 4).length (byC (bigL head 4)) := by
 have h := Mr.own_fresh (W := W) (cs := #[.int .u8 (IntKind.u8.wrap ((head : Int) / 16777216)), .int .u8 (IntKind.u8.wrap ((head : Int) / 65536)), .int .u8 (IntKind.u8.wrap ((head : Int) / 256)), .int .u8 (IntKind.u8.wrap (head : Int))]) (E := 5) (sz := 1) (n := 4) (cap := 4) (by unfold maxLen; omega) (Nat.le_refl _) rfl
 have e : (#[Value.int .u8 (IntKind.u8.wrap ((head : Int) / 16777216)), .int .u8 (IntKind.u8.wrap ((head : Int) / 65536)), .int .u8 (IntKind.u8.wrap ((head : Int) / 256)), .int .u8 (IntKind.u8.wrap (head : Int))].toList.take (4 * 1)) = byC (bigL head 4) := big4 head
 rw [e] at h
 rw [bigL_len]
 exact h
theorem Nx1.put {W0 W : World} {v0 v1 : Value} {head : Nat} (h : Nx1 W0 (bigL head 4) false false v0 v1 W) :
  Nx1 W0 (bigL head 4) true false (.slice (some ⟨W.heap.size, 0, none⟩) 4 4) v1 (W.alloc (.cells #[.int .u8 (IntKind.u8.wrap ((head : Int) / 16777216)), .int .u8 (IntKind.u8.wrap ((head : Int) / 65536)), .int .u8 (IntKind.u8.wrap ((head : Int) / 256)), .int .u8 (IntKind.u8.wrap (head : Int))] 5)) :=
 ⟨bStep h.bel bAl, fun _ => Mr.own_base (nx_row W head) h.bel.size, (fun e => by cases e), (fun e => by cases e)⟩
theorem bytX_len (e : Evt) (hok : okX e = true) (h1 : e.2.2.2.2.1.size ≤ 100 ∧ e.2.2.2.2.2.size ≤ 100) : (bytX e).length ≤ 300 := by
 obtain ⟨k, t, a, b, nm, ot⟩ := e
 dsimp only at h1
 show (bytesE (evL k t a b nm ot)).length ≤ 300
 unfold bytesE evL b8
 simp
 omega
theorem nx_first (k t a b : Int) (nm ot : ByteArray) (w : World) :
  ((w.alloc (.cells #[.int .i64 k, .int .i64 t, .int .i64 a, .int .i64 b, .string nm, .string ot] 29)).alloc (.cells zeroE 31)).heap[w.heap.size]? = some (.cells #[.int .i64 k, .int .i64 t, .int .i64 a, .int .i64 b, .string nm, .string ot] 29 (0, 0)) ∧
  ((w.alloc (.cells #[.int .i64 k, .int .i64 t, .int .i64 a, .int .i64 b, .string nm, .string ot] 29)).alloc (.cells zeroE 31)).heap[w.heap.size + 1]? = some (.cells zeroE 31 (0, 0)) ∧
  Below w.heap.size w ((w.alloc (.cells #[.int .i64 k, .int .i64 t, .int .i64 a, .int .i64 b, .string nm, .string ot] 29)).alloc (.cells zeroE 31)) := by
 refine ⟨blk_step (blk_new w _) bAl, ?_, bAlloc bAl _⟩
 have h := blk_new (w.alloc (.cells #[.int .i64 k, .int .i64 t, .int .i64 a, .int .i64 b, .string nm, .string ot] 29)) (.cells zeroE 31)
 rw [show (w.alloc (.cells #[.int .i64 k, .int .i64 t, .int .i64 a, .int .i64 b, .string nm, .string ot] 29)).heap.size = w.heap.size + 1 by simp] at h
 exact h
theorem new_cellsB {W : World} {cs : List Value} {t : TypeId} {n : Nat} : n * 1 ≠ 0 → ∃ p off, (some (⟨W.heap.size, 0, none⟩ : Addr)) = some ⟨p, off, none⟩ ∧ ∀ (j : Nat) (u : Value), cs[j]? = some u → (W.alloc (.cells cs.toArray t)).cell? ⟨p, off + j, none⟩ = some u := fun _ =>
 ⟨_, 0, rfl, fun j u hu => blk_cell (blk_new W _) (by rw [Nat.zero_add]; simpa using hu)⟩
theorem info8' : (Tryz.prog.info? 5).map (fun i => (i.zero, i.size, i.bytes)) = some (some (.int .u8 0), 1, 1) := by kernel_rfl
theorem byC_app' (l m : List Nat) : byC (l ++ m) = byC l ++ byC m := by unfold byC; rw [List.map_append]
theorem byC_len' (m : List Nat) : (byC m).length = m.length := by unfold byC; rw [List.length_map]
theorem own_grown {W0 W w2 : World} {u : Value} {n : Nat} {xs : List Value} (hb : Below W0.heap.size W0 W) (ho : W.ownsRow W0.heap.size 5 1 u n xs) (hg : W.grownBy w2 u.ownBlock) : Below W0.heap.size W0 w2 :=
 hb.grown hg hb.size fun k hk => by
  obtain ⟨h1, h2⟩ := ho
  rcases h2 with ⟨h2, h3⟩ | ⟨g, cap, cur, q1, q2, -⟩
  ·rw [h2] at hk; cases hk
  ·rw [q1] at hk
   obtain rfl : g = k := by simpa [Value.ownBlock] using hk
   exact q2
theorem nx_msg {W0 w7 : World} {v7 : Value} {head by_ : Nat} {m : List Nat} (h : w7.ownsRow W0.heap.size 5 1 v7 ((bigL head 4).length + m.length + 1) (byC (bigL head 4) ++ byC m ++ [.int .u8 ((by_ % 256 : Nat) : Int)])) :
  ∃ g c, v7 = .slice (some ⟨g, 0, none⟩) (bigL head 4 ++ m ++ [by_ % 256]).length c ∧ W0.heap.size ≤ g ∧ g < w7.heap.size ∧ BytV (some ⟨g, 0, none⟩) (bigL head 4 ++ m ++ [by_ % 256]) w7 := by
 have e : byC (bigL head 4) ++ byC m ++ [.int .u8 ((by_ % 256 : Nat) : Int)] = byC (bigL head 4 ++ m ++ [by_ % 256]) := by rw [byC_app', byC_app']; rfl
 have en : (bigL head 4).length + m.length + 1 = (bigL head 4 ++ m ++ [by_ % 256]).length := by rw [List.length_append, List.length_append]; rfl
 rw [e, en] at h
 obtain ⟨h1, h2⟩ := h
 rcases h2 with ⟨h2, h3⟩ | ⟨g, cap, cur, q1, q2, q3, q4, q5, q6, q7⟩
 ·rw [List.length_append] at h3; simp at h3
 ·refine ⟨g, cap, q1, q2, blk_lt q3, fun _ => ⟨g, 0, rfl, blk_lt q3, fun k hk => ?_⟩⟩
  have hj : (byC (bigL head 4 ++ m ++ [by_ % 256]))[k]? = some (.int .u8 (((bigL head 4 ++ m ++ [by_ % 256]).getD k 0 : Nat) : Int)) := by
   unfold byC
   rw [List.getElem?_map, List.getD_eq_getElem?_getD, List.getElem?_eq_getElem hk]; rfl
  rw [← q7, List.getElem?_take_of_lt (by omega)] at hj
  exact blk_cell q3 (by simpa using hj)
theorem nx_byt {head by_ : Nat} {m : List Nat} (h : Byt m) : Byt (bigL head 4 ++ m ++ [by_ % 256]) := by
 intro k
 have key : ∀ x ∈ bigL head 4 ++ m ++ [by_ % 256], x < 256 := by
  intro x hx
  simp only [List.mem_append, List.mem_singleton] at hx
  rcases hx with (hx | hx) | hx
  ·unfold bigL at hx
   obtain ⟨j, -, rfl⟩ := List.mem_map.1 hx
   exact Nat.mod_lt _ (by decide)
  ·obtain ⟨j, hj⟩ := List.getElem?_of_mem hx
   have := h j
   rw [List.getD_eq_getElem?_getD, hj] at this
   exact this
  ·rw [hx]; exact Nat.mod_lt _ (by decide)
 by_cases hk : k < (bigL head 4 ++ m ++ [by_ % 256]).length
 ·rw [List.getD_eq_getElem?_getD, List.getElem?_eq_getElem hk]
  exact key _ (List.getElem_mem hk)
 ·rw [List.getD_eq_getElem?_getD, List.getElem?_eq_none (by omega)]
  decide
theorem OnlyB.cell {T : TypeId} {B off n : Nat} {w W : World} (h : OnlyB T B off n w W) {p o : Nat} {u : Value} (hp : p ≠ B) (hc : w.cell? ⟨p, o, none⟩ = some u) : W.cell? ⟨p, o, none⟩ = some u := by
 have hlt : p < w.heap.size := World.block_lt_of_cell? _ _ hc
 exact (World.cell?_of_block (w := w) (a := ⟨p, o, none⟩) (h.block p hlt hp)).trans hc
theorem BytV.only {T : TypeId} {B off n g : Nat} {w W : World} {m : List Nat} (h : BytV (some ⟨g, 0, none⟩) m w) (ho : OnlyB T B off n w W) (hg : g ≠ B) : BytV (some ⟨g, 0, none⟩) m W := fun hn => by
 obtain ⟨b, o2, e, h1, h2⟩ := h hn
 cases e
 exact ⟨g, 0, rfl, Nat.lt_of_lt_of_le h1 ho.size, fun k hk => ho.cell hg (h2 k hk)⟩
structure Nx5 (w w8 : World) (cs : Array Value) (b0 : Bool) (W : World) : Prop where
 only : OnlyB 31 (w.heap.size + 1) 0 10 w8 W
 bel : Below w.heap.size w W
 blk : W.heap[w.heap.size + 1]? = some (.cells (bif b0 then cs else zeroE) 31 (0, 0))
theorem Nx5.step {w w8 W w2 : World} {cs : Array Value} {b0 : Bool} (h : Nx5 w w8 cs b0 W) (hb : Below W.heap.size W w2) : Nx5 w w8 cs b0 w2 := ⟨h.only.step hb, bStep h.bel hb, blk_step h.blk hb⟩
theorem res_cell1 {P : Program} {fn : Func} {tmps : Array Value} {W : World} {a : Nat} {t : TypeId} {p : Addr} {v : Value} (hr : fn.results = #[.cell a t]) (ha : tmps.getD a undef = .pointer (some p)) (hl : (loadVar t p).run P W = .ok v W) : (results fn tmps).run P W = .ok v W := by
 unfold results
 rw [hr]
 simp only [List.mapM_toArray, List.mapM_cons, List.mapM_nil, ha, asAddr, Sem.run_bind, Sem.run_pure, Result.andThen_ok, hl, map_eq_pure_bind, bind_assoc, pure_bind]
 rfl
theorem ent_size : (Tryz.prog.info? 31).map (·.size) = some 10 := by kernel_rfl
theorem ent_load {W : World} {b : Nat} {y : Ent} (h : W.heap[b]? = some (.cells (entC y).toArray 31 (0, 0))) : (loadVar 31 ⟨b, 0, none⟩).run Tryz.prog W = .ok (entX y) W :=
 run_loadVar_mid W b 0 31 (entC y) _ (fun j v hv => blk_cell h (by rw [Nat.zero_add]; simpa using hv)) Tryz.underlying31 rfl ent_size
set_option maxHeartbeats 600000 in
theorem Nx5.fin {w w8 W : World} {y : Ent} (h : Nx5 w w8 (entC y).toArray false W) : Nx5 w w8 (entC y).toArray true
  ((((((((((W.setCell ⟨w.heap.size + 1, 0, none⟩ (.int .i64 y.1.1)).setCell ⟨w.heap.size + 1, 1, none⟩ (.int .i64 y.1.2.1)).setCell ⟨w.heap.size + 1, 2, none⟩ (.int .i64 y.1.2.2.1)).setCell ⟨w.heap.size + 1, 3, none⟩ (.int .i64 y.1.2.2.2.1)).setCell ⟨w.heap.size + 1, 4, none⟩ (.string y.1.2.2.2.2.1)).setCell ⟨w.heap.size + 1, 5, none⟩ (.string y.1.2.2.2.2.2)).setCell ⟨w.heap.size + 1, 6, none⟩ (.int .i64 y.2.1)).setCell ⟨w.heap.size + 1, 7, none⟩ (.int .i64 y.2.2.1)).setCell ⟨w.heap.size + 1, 8, none⟩ (.int .u64 (y.2.2.2.1 : Int))).setCell ⟨w.heap.size + 1, 9, none⟩ (.int .u64 (y.2.2.2.2 : Int))) := by
 obtain ⟨⟨k, t, a, b, nm, ot⟩, by_, pad, head, tag⟩ := y
 have hw : w.heap.size ≤ w.heap.size + 1 := by omega
 have hz : W.heap[w.heap.size + 1]? = some (.cells #[.int .i64 0, .int .i64 0, .int .i64 0, .int .i64 0, .string ⟨#[]⟩, .string ⟨#[]⟩, .int .i64 0, .int .i64 0, .int .u64 0, .int .u64 0] 31 (0, 0)) := h.blk
 refine ⟨?_, ?_, ?_⟩
 ·have q0 := h.only.set (j := 0) (by decide) (.int .i64 k)
  have q1 := q0.set (j := 1) (by decide) (.int .i64 t)
  have q2 := q1.set (j := 2) (by decide) (.int .i64 a)
  have q3 := q2.set (j := 3) (by decide) (.int .i64 b)
  have q4 := q3.set (j := 4) (by decide) (.string nm)
  have q5 := q4.set (j := 5) (by decide) (.string ot)
  have q6 := q5.set (j := 6) (by decide) (.int .i64 by_)
  have q7 := q6.set (j := 7) (by decide) (.int .i64 pad)
  have q8 := q7.set (j := 8) (by decide) (.int .u64 (head : Int))
  exact q8.set (j := 9) (by decide) (.int .u64 (tag : Int))
 ·exact (((((((((h.bel.setCell hw _).setCell hw _).setCell hw _).setCell hw _).setCell hw _).setCell hw _).setCell hw _).setCell hw _).setCell hw _).setCell hw _
 ·have z0 : (W.setCell ⟨w.heap.size + 1, 0, none⟩ (.int .i64 k)).heap[w.heap.size + 1]? = some (.cells #[(.int .i64 k), (.int .i64 0), (.int .i64 0), (.int .i64 0), (.string ⟨#[]⟩), (.string ⟨#[]⟩), (.int .i64 0), (.int .i64 0), (.int .u64 0), (.int .u64 0)] 31 (0, 0)) := blk_set hz
  have z1 : ((W.setCell ⟨w.heap.size + 1, 0, none⟩ (.int .i64 k)).setCell ⟨w.heap.size + 1, 1, none⟩ (.int .i64 t)).heap[w.heap.size + 1]? = some (.cells #[(.int .i64 k), (.int .i64 t), (.int .i64 0), (.int .i64 0), (.string ⟨#[]⟩), (.string ⟨#[]⟩), (.int .i64 0), (.int .i64 0), (.int .u64 0), (.int .u64 0)] 31 (0, 0)) := blk_set z0
  have z2 : (((W.setCell ⟨w.heap.size + 1, 0, none⟩ (.int .i64 k)).setCell ⟨w.heap.size + 1, 1, none⟩ (.int .i64 t)).setCell ⟨w.heap.size + 1, 2, none⟩ (.int .i64 a)).heap[w.heap.size + 1]? = some (.cells #[(.int .i64 k), (.int .i64 t), (.int .i64 a), (.int .i64 0), (.string ⟨#[]⟩), (.string ⟨#[]⟩), (.int .i64 0), (.int .i64 0), (.int .u64 0), (.int .u64 0)] 31 (0, 0)) := blk_set z1
  have z3 : ((((W.setCell ⟨w.heap.size + 1, 0, none⟩ (.int .i64 k)).setCell ⟨w.heap.size + 1, 1, none⟩ (.int .i64 t)).setCell ⟨w.heap.size + 1, 2, none⟩ (.int .i64 a)).setCell ⟨w.heap.size + 1, 3, none⟩ (.int .i64 b)).heap[w.heap.size + 1]? = some (.cells #[(.int .i64 k), (.int .i64 t), (.int .i64 a), (.int .i64 b), (.string ⟨#[]⟩), (.string ⟨#[]⟩), (.int .i64 0), (.int .i64 0), (.int .u64 0), (.int .u64 0)] 31 (0, 0)) := blk_set z2
  have z4 : (((((W.setCell ⟨w.heap.size + 1, 0, none⟩ (.int .i64 k)).setCell ⟨w.heap.size + 1, 1, none⟩ (.int .i64 t)).setCell ⟨w.heap.size + 1, 2, none⟩ (.int .i64 a)).setCell ⟨w.heap.size + 1, 3, none⟩ (.int .i64 b)).setCell ⟨w.heap.size + 1, 4, none⟩ (.string nm)).heap[w.heap.size + 1]? = some (.cells #[(.int .i64 k), (.int .i64 t), (.int .i64 a), (.int .i64 b), (.string nm), (.string ⟨#[]⟩), (.int .i64 0), (.int .i64 0), (.int .u64 0), (.int .u64 0)] 31 (0, 0)) := blk_set z3
  have z5 : ((((((W.setCell ⟨w.heap.size + 1, 0, none⟩ (.int .i64 k)).setCell ⟨w.heap.size + 1, 1, none⟩ (.int .i64 t)).setCell ⟨w.heap.size + 1, 2, none⟩ (.int .i64 a)).setCell ⟨w.heap.size + 1, 3, none⟩ (.int .i64 b)).setCell ⟨w.heap.size + 1, 4, none⟩ (.string nm)).setCell ⟨w.heap.size + 1, 5, none⟩ (.string ot)).heap[w.heap.size + 1]? = some (.cells #[(.int .i64 k), (.int .i64 t), (.int .i64 a), (.int .i64 b), (.string nm), (.string ot), (.int .i64 0), (.int .i64 0), (.int .u64 0), (.int .u64 0)] 31 (0, 0)) := blk_set z4
  have z6 : (((((((W.setCell ⟨w.heap.size + 1, 0, none⟩ (.int .i64 k)).setCell ⟨w.heap.size + 1, 1, none⟩ (.int .i64 t)).setCell ⟨w.heap.size + 1, 2, none⟩ (.int .i64 a)).setCell ⟨w.heap.size + 1, 3, none⟩ (.int .i64 b)).setCell ⟨w.heap.size + 1, 4, none⟩ (.string nm)).setCell ⟨w.heap.size + 1, 5, none⟩ (.string ot)).setCell ⟨w.heap.size + 1, 6, none⟩ (.int .i64 by_)).heap[w.heap.size + 1]? = some (.cells #[(.int .i64 k), (.int .i64 t), (.int .i64 a), (.int .i64 b), (.string nm), (.string ot), (.int .i64 by_), (.int .i64 0), (.int .u64 0), (.int .u64 0)] 31 (0, 0)) := blk_set z5
  have z7 : ((((((((W.setCell ⟨w.heap.size + 1, 0, none⟩ (.int .i64 k)).setCell ⟨w.heap.size + 1, 1, none⟩ (.int .i64 t)).setCell ⟨w.heap.size + 1, 2, none⟩ (.int .i64 a)).setCell ⟨w.heap.size + 1, 3, none⟩ (.int .i64 b)).setCell ⟨w.heap.size + 1, 4, none⟩ (.string nm)).setCell ⟨w.heap.size + 1, 5, none⟩ (.string ot)).setCell ⟨w.heap.size + 1, 6, none⟩ (.int .i64 by_)).setCell ⟨w.heap.size + 1, 7, none⟩ (.int .i64 pad)).heap[w.heap.size + 1]? = some (.cells #[(.int .i64 k), (.int .i64 t), (.int .i64 a), (.int .i64 b), (.string nm), (.string ot), (.int .i64 by_), (.int .i64 pad), (.int .u64 0), (.int .u64 0)] 31 (0, 0)) := blk_set z6
  have z8 : (((((((((W.setCell ⟨w.heap.size + 1, 0, none⟩ (.int .i64 k)).setCell ⟨w.heap.size + 1, 1, none⟩ (.int .i64 t)).setCell ⟨w.heap.size + 1, 2, none⟩ (.int .i64 a)).setCell ⟨w.heap.size + 1, 3, none⟩ (.int .i64 b)).setCell ⟨w.heap.size + 1, 4, none⟩ (.string nm)).setCell ⟨w.heap.size + 1, 5, none⟩ (.string ot)).setCell ⟨w.heap.size + 1, 6, none⟩ (.int .i64 by_)).setCell ⟨w.heap.size + 1, 7, none⟩ (.int .i64 pad)).setCell ⟨w.heap.size + 1, 8, none⟩ (.int .u64 (head : Int))).heap[w.heap.size + 1]? = some (.cells #[(.int .i64 k), (.int .i64 t), (.int .i64 a), (.int .i64 b), (.string nm), (.string ot), (.int .i64 by_), (.int .i64 pad), (.int .u64 (head : Int)), (.int .u64 0)] 31 (0, 0)) := blk_set z7
  have z9 : ((((((((((W.setCell ⟨w.heap.size + 1, 0, none⟩ (.int .i64 k)).setCell ⟨w.heap.size + 1, 1, none⟩ (.int .i64 t)).setCell ⟨w.heap.size + 1, 2, none⟩ (.int .i64 a)).setCell ⟨w.heap.size + 1, 3, none⟩ (.int .i64 b)).setCell ⟨w.heap.size + 1, 4, none⟩ (.string nm)).setCell ⟨w.heap.size + 1, 5, none⟩ (.string ot)).setCell ⟨w.heap.size + 1, 6, none⟩ (.int .i64 by_)).setCell ⟨w.heap.size + 1, 7, none⟩ (.int .i64 pad)).setCell ⟨w.heap.size + 1, 8, none⟩ (.int .u64 (head : Int))).setCell ⟨w.heap.size + 1, 9, none⟩ (.int .u64 (tag : Int))).heap[w.heap.size + 1]? = some (.cells #[(.int .i64 k), (.int .i64 t), (.int .i64 a), (.int .i64 b), (.string nm), (.string ot), (.int .i64 by_), (.int .i64 pad), (.int .u64 (head : Int)), (.int .u64 (tag : Int))] 31 (0, 0)) := blk_set z8
  exact z9
set_option maxHeartbeats 8000000 in
set_option maxRecDepth 20000 in
theorem Next_any {a : Option Addr} {bks : List Bk} {w : World} (pt c Bc oc head by_ pad pd : Nat) (bk : Bk) (e : Evt) (hok : okX e = true) (hsz : e.2.2.2.2.1.size ≤ 100 ∧ e.2.2.2.2.2.size ≤ 100) (h : BksAt a bks w) (hh : w.cell? ⟨Bc, oc, none⟩ = some (.int .u64 (head : Int))) (hlt : Bc < w.heap.size)
  (hk : bks[by_]? = some bk) (hl8 : bks.length ≤ 8) (hpd : bk.2[pad]? = some pd) (hpl : bk.2.length ≤ 1000000) (hpt : pt < 2147483648) (hbp : bk.1 < 2147483648) (hp31 : pd < 2147483648) :
  Calls Tryz.prog 45 #[.pointer (some ⟨Bc, oc, none⟩), .int .u64 (pt : Int), .slice a bks.length c, evX e, .int .i64 (by_ : Int), .int .i64 (pad : Int)] w fun en w' => en = .returned (entX (nextE pt bks head e by_ pad)) ∧ Below w.heap.size w w' := by
 have HR := Lib.hid (fun W => raw_ok e W hok hsz)
 have HBY := Lib.hid (bytX_byt e hok hsz)
 have HML := Lib.hid (bytX_len e hok hsz)
 obtain ⟨i0, hi, hz0, hz1, hz2⟩ := info_parts info8'
 obtain ⟨k, t, a1, b1, nm, ot⟩ := e
 replace HR : Hid (∀ W, Calls Tryz.prog 105 #[.agg #[.int .i64 k, .int .i64 t, .int .i64 a1, .int .i64 b1, .string nm, .string ot]] W fun en w' => ∃ p c, en = .returned (.slice p (bytX (k, t, a1, b1, nm, ot)).length c) ∧ BytV p (bytX (k, t, a1, b1, nm, ot)) w' ∧ Below W.heap.size W w') := HR
 have hF := nx_first k t a1 b1 nm ot w
 change Calls Tryz.prog 45 #[.pointer (some ⟨Bc, oc, none⟩), .int .u64 (pt : Int), .slice a bks.length c, .agg #[.int .i64 k, .int .i64 t, .int .i64 a1, .int .i64 b1, .string nm, .string ot], .int .i64 (by_ : Int), .int .i64 (pad : Int)] w _
 go_enter Tryz.func45, Tryz.ntmps45
 go_upto_region 1 with fail
 unfold zeroE at hF
 have c0 : ((w.alloc (.cells #[.int .i64 k, .int .i64 t, .int .i64 a1, .int .i64 b1, .string nm, .string ot] 29)).alloc (.cells #[.int .i64 0, .int .i64 0, .int .i64 0, .int .i64 0, .string ⟨#[]⟩, .string ⟨#[]⟩, .int .i64 0, .int .i64 0, .int .u64 0, .int .u64 0] 31)).cell? ⟨Bc, oc, none⟩ = some (.int .u64 (head : Int)) := cell_step hh hF.2.2
 have HF := Lib.hid hF
 have HBw := Lib.hid h
 have hlt0 : Bc < ((w.alloc (.cells #[.int .i64 k, .int .i64 t, .int .i64 a1, .int .i64 b1, .string nm, .string ot] 29)).alloc (.cells #[.int .i64 0, .int .i64 0, .int .i64 0, .int .i64 0, .string ⟨#[]⟩, .string ⟨#[]⟩, .int .i64 0, .int .i64 0, .int .u64 0, .int .u64 0] 31)).heap.size := Nat.lt_of_lt_of_le hlt hF.2.2.size
 have HC0 := Lib.hid (And.intro c0 hlt0)
 clear hF c0 hlt0 h hh hlt hok hsz
 generalize ((w.alloc _).alloc _) = W0 at *
 refine region_all 25 14 80 [(23, 39), (24, 13)] [(none, []), (none, []), (none, []), (none, []), (none, []), (none, []), (none, []), (none, []), (none, []), (none, []), (none, []), (none, []), (none, []), (none, []), (none, []), (none, []), (none, []), (none, []), (none, []), (none, []), (none, []), (none, []), (none, []), (some 0, []), (some 1, [0])] [(16, (.pointer (some ⟨Bc, oc, none⟩))), (17, (.pointer (some ⟨Bc, oc, none⟩))), (18, (.pointer (some ⟨Bc, oc, none⟩))), (19, (.int .u64 (head : Int))), (20, (.int .u64 ((head : Int) / 16777216))), (21, (.int .u8 (IntKind.u8.wrap ((head : Int) / 16777216)))), (22, (.pointer (some ⟨Bc, oc, none⟩))), (23, (.pointer (some ⟨Bc, oc, none⟩))), (24, (.pointer (some ⟨Bc, oc, none⟩))), (25, (.int .u64 (head : Int))), (26, (.int .u64 ((head : Int) / 65536))), (27, (.int .u8 (IntKind.u8.wrap ((head : Int) / 65536)))), (28, (.pointer (some ⟨Bc, oc, none⟩))), (29, (.pointer (some ⟨Bc, oc, none⟩))), (30, (.pointer (some ⟨Bc, oc, none⟩))), (31, (.int .u64 (head : Int))), (32, (.int .u64 ((head : Int) / 256))), (33, (.int .u8 (IntKind.u8.wrap ((head : Int) / 256)))), (34, (.pointer (some ⟨Bc, oc, none⟩))), (35, (.pointer (some ⟨Bc, oc, none⟩))), (36, (.pointer (some ⟨Bc, oc, none⟩))), (37, (.int .u64 (head : Int))), (38, (.int .u8 (IntKind.u8.wrap (head : Int))))] (fun bsE vsE W => Nx1 W0 (bigL head 4) (bsE.getD 0 false) (bsE.getD 1 false) ((vsE.getD 0 undef)) ((vsE.getD 1 undef)) W) (by kernel_rfl) (by kernel_rfl) rfl rfl (by kernel_rfl) (by rfl) ?h0 ?each ?done
 case h0 =>
  intro vsE hlv
  obtain ⟨v0, v1, rfl⟩ := ll2 hlv
  exact ⟨(Below.refl _ _).drew, (fun e => by cases e), (fun e => by cases e), (fun _ => rfl)⟩
 case each =>
  simp only [AllE]
  refine ⟨⟨16, (.pointer (some ⟨Bc, oc, none⟩)), rfl, by kernel_rfl, ?_⟩, ⟨17, (.pointer (some ⟨Bc, oc, none⟩)), rfl, by kernel_rfl, ?_⟩, ⟨18, (.pointer (some ⟨Bc, oc, none⟩)), rfl, by kernel_rfl, ?_⟩, ⟨19, (.int .u64 (head : Int)), rfl, by kernel_rfl, ?_⟩, ⟨20, (.int .u64 ((head : Int) / 16777216)), rfl, by kernel_rfl, ?_⟩, ⟨21, (.int .u8 (IntKind.u8.wrap ((head : Int) / 16777216))), rfl, by kernel_rfl, ?_⟩, ⟨22, (.pointer (some ⟨Bc, oc, none⟩)), rfl, by kernel_rfl, ?_⟩, ⟨23, (.pointer (some ⟨Bc, oc, none⟩)), rfl, by kernel_rfl, ?_⟩, ⟨24, (.pointer (some ⟨Bc, oc, none⟩)), rfl, by kernel_rfl, ?_⟩, ⟨25, (.int .u64 (head : Int)), rfl, by kernel_rfl, ?_⟩, ⟨26, (.int .u64 ((head : Int) / 65536)), rfl, by kernel_rfl, ?_⟩, ⟨27, (.int .u8 (IntKind.u8.wrap ((head : Int) / 65536))), rfl, by kernel_rfl, ?_⟩, ⟨28, (.pointer (some ⟨Bc, oc, none⟩)), rfl, by kernel_rfl, ?_⟩, ⟨29, (.pointer (some ⟨Bc, oc, none⟩)), rfl, by kernel_rfl, ?_⟩, ⟨30, (.pointer (some ⟨Bc, oc, none⟩)), rfl, by kernel_rfl, ?_⟩, ⟨31, (.int .u64 (head : Int)), rfl, by kernel_rfl, ?_⟩, ⟨32, (.int .u64 ((head : Int) / 256)), rfl, by kernel_rfl, ?_⟩, ⟨33, (.int .u8 (IntKind.u8.wrap ((head : Int) / 256))), rfl, by kernel_rfl, ?_⟩, ⟨34, (.pointer (some ⟨Bc, oc, none⟩)), rfl, by kernel_rfl, ?_⟩, ⟨35, (.pointer (some ⟨Bc, oc, none⟩)), rfl, by kernel_rfl, ?_⟩, ⟨36, (.pointer (some ⟨Bc, oc, none⟩)), rfl, by kernel_rfl, ?_⟩, ⟨37, (.int .u64 (head : Int)), rfl, by kernel_rfl, ?_⟩, ⟨38, (.int .u8 (IntKind.u8.wrap (head : Int))), rfl, by kernel_rfl, ?_⟩, Or.inl ⟨39, rfl, ?q2_23⟩, Or.inl ⟨13, rfl, ?q2_24⟩, trivial⟩
  case q2_23 =>
   intro bsE vsE W hlb hlv hnd hbk h
   obtain ⟨b0, b1, rfl⟩ := ll2 hlb
   obtain ⟨v0, v1, rfl⟩ := ll2 hlv
   obtain rfl : b0 = false := hbk
   replace h : Nx1 W0 (bigL head 4) false b1 (v0) (v1) W := h
   clear hnd
   have HST := Lib.hid h
   obtain rfl := h.n rfl
   intro K Q hK
   simp only [putE, updAll, Act.put, sl1, sl2, sl3, sl4] at hK ⊢
   go_wp2_with fail
   all_goals (have hN := h.put)
   all_goals (first | exact hK _ _ hN | exact hN)
  case q2_24 =>
   intro bsE vsE W hlb hlv hnd hbk h
   obtain ⟨b0, b1, rfl⟩ := ll2 hlb
   obtain ⟨v0, v1, rfl⟩ := ll2 hlv
   obtain rfl : b0 = true := hnd 0 (by simp)
   obtain rfl : b1 = false := hbk
   replace h : Nx1 W0 (bigL head 4) true false (v0) (v1) W := h
   clear hnd
   have HST := Lib.hid h
   skip
   intro K Q hK
   simp only [putE, updAll, Act.put, sl1, sl2, sl3, sl4] at hK ⊢
   go_wp2_with fail
   all_goals (have hN : Nx1 W0 (bigL head 4) true true (v0) (v0) W := ⟨h.bel, h.r0, fun _ => rfl, (fun e => by cases e)⟩)
   all_goals (first | exact hK _ _ hN | exact hN)
  all_goals
   intro bsE vsE W hlb hlv hnd h
   obtain ⟨b0, b1, rfl⟩ := ll2 hlb
   obtain ⟨v0, v1, rfl⟩ := ll2 hlv
   replace h : Nx1 W0 (bigL head 4) b0 b1 (v0) (v1) W := h
   clear hnd
   have HST := Lib.hid h
   have c0 := cell_step HC0.out.1 h.bel; have lB : Bc < W.heap.size := Nat.lt_of_lt_of_le HC0.out.2 h.bel.size
   intro K Q hK
   simp only [putE, updAll, Act.put, sl1, sl2, sl3, sl4] at hK ⊢
   go_wp2_with (fail)
   all_goals (first | exact hK _ h | exact h)
 case done =>
  intro vsE W hlv h
  obtain ⟨v0, v1, rfl⟩ := ll2 hlv
  replace h : Nx1 W0 (bigL head 4) true true (v0) (v1) W := h
  have HST := Lib.hid h
  have hv := (h.r1 rfl).symm
  subst hv
  have HO1 := Lib.hid (h.r0 rfl)
  have HB1 := Lib.hid h.bel
  clear h HST
  obtain ⟨m, hm⟩ : ∃ m, bytX (k, t, a1, b1, nm, ot) = m := ⟨_, rfl⟩
  rw [hm] at HR HBY HML
  have HME : Hid (msgE head (k, t, a1, b1, nm, ot) by_ = bigL head 4 ++ m ++ [by_ % 256]) := by unfold Hid msgE; rw [hm]
  clear hm
  have HE1 := Lib.hid (blk_step HF.out.1 HB1.out)
  have v0_ := blk_cell (o := 0) HE1.out rfl
  have v1_ := blk_cell (o := 1) HE1.out rfl
  have v2_ := blk_cell (o := 2) HE1.out rfl
  have v3_ := blk_cell (o := 3) HE1.out rfl
  have v4_ := blk_cell (o := 4) HE1.out rfl
  have v5_ := blk_cell (o := 5) HE1.out rfl
  have vl_ := blk_lt HE1.out
  have hw8 := u8_nat by_
  simp only [putE, updAll, Act.put, sl1, sl2, sl3, sl4]
  go_upto_region 2 with fail
  go_upto_region 3 with (first | (go_at_call 105; refine (HR.out _).mono ?_; rintro e w5 ⟨p5, c5, rfl, hB5, hb5⟩; have HV := Lib.hid hB5; have HO2 := Lib.hid (own_step HO1.out hb5); have HW5 := Lib.hid (HB1.out.trans (hb5.mono HB1.out.size)); clear hB5 hb5 HO1 HB1) | (at_builtin; refine wpList_app _ rfl (.tmp 40) (.tmp 42) 88 rfl W0.heap.size 5 i0 (.int .u8 0) 1 1 Tryz.underlying88 hi hz0 hz1 hz2 rfl (by decide) _ (bigL head 4).length (byC (bigL head 4)) rfl HO2.out p5 m.length c5 (byC m) rfl (by rw [byC_len']; omega) (byt_news HV.out) (byC_one _) (by rw [bigL_len]; have := HML.out; unfold maxLen; omega) (by rw [bigL_len]; have := HML.out; omega) HW5.out.size ?_; intro v6 w6 q1 q2 q3; have HO3 := Lib.hid (own_step q1 (bAl (o := .cells #[.int .u8 ((by_ % 256 : Nat) : Int)] 5))); have HW6 := Lib.hid ((own_grown HW5.out HO2.out q2).trans (Below.mono (bAl (o := .cells #[.int .u8 ((by_ % 256 : Nat) : Int)] 5)) (own_grown HW5.out HO2.out q2).size)); clear q1 q2 q3 HO2 HW5 HV) | (at_builtin; refine wpList_app _ rfl (.tmp 43) (.tmp 46) 88 rfl W0.heap.size 5 i0 (.int .u8 0) 1 1 Tryz.underlying88 hi hz0 hz1 hz2 rfl (by decide) _ ((bigL head 4).length + m.length) (byC (bigL head 4) ++ byC m) rfl HO3.out (some ⟨w6.heap.size, 0, none⟩) 1 1 [.int .u8 ((by_ % 256 : Nat) : Int)] rfl rfl new_cellsB (by intro u hu; rw [List.mem_singleton.1 hu]; rfl) (by rw [bigL_len]; have := HML.out; unfold maxLen; omega) (by rw [bigL_len]; have := HML.out; omega) HW6.out.size ?_; intro v7 w7 q1 q2 q3; have HO4 := Lib.hid q1; have HW7 := Lib.hid (own_grown HW6.out HO3.out q2); clear q1 q2 q3 HO3 HW6))
  obtain ⟨g7, c7, rfl, hg7, hg8, hB7⟩ := nx_msg HO4.out
  have HMB := Lib.hid (nx_byt (head := head) (by_ := by_) HBY.out)
  have HMN : Hid ((bigL head 4 ++ m ++ [by_ % 256]).length ≤ 2000) := by have := HML.out; unfold Hid; rw [List.length_append, List.length_append, bigL_len]; simp; omega
  rw [← HME.out] at hB7 HMB HMN ⊢
  obtain ⟨M, hMq⟩ : ∃ M, msgE head (k, t, a1, b1, nm, ot) by_ = M := ⟨_, rfl⟩
  have HMEq := Lib.hid hMq
  rw [hMq] at hB7 HMB HMN ⊢
  clear hMq HME
  have HBT := Lib.hid hB7
  have HG7 := Lib.hid (And.intro hg7 hg8)
  clear hB7 hg7 hg8 HO4 HBY HML HR HE1 v0_ v1_ v2_ v3_ v4_ v5_ vl_ hw8
  go_upto_region 4 with (go_at_call 40; refine (large_any _).mono ?_; rintro e w8 ⟨BL, oL, rfl, L1, L2, L3, L4, hb8⟩)
  have HW8 := Lib.hid (HW7.out.trans (hb8.mono HW7.out.size))
  replace HBT := Lib.hid (HBT.out.step hb8)
  have HL := Lib.hid (And.intro (And.intro L1 L2) (And.intro L3 L4))
  have hg9 := Nat.lt_of_lt_of_le HG7.out.2 hb8.size
  have HG9 := Lib.hid hg9
  clear L1 L2 L3 L4 hb8 HW7 hg9
  obtain ⟨bb, ob, rfl, hbb, hcs⟩ := HBw.out (by rintro rfl; cases hk)
  obtain ⟨s0, vp, s1, hpv⟩ := hcs by_ bk hk
  obtain ⟨ap, cp, rfl, hpc⟩ := hpv
  obtain ⟨bp, op, rfl, hbp2, hpd2⟩ := hpc (by intro e; rw [e] at hpd; cases hpd)
  have s2 := hpd2 pad pd hpd
  have k1 : (by_ : Int) < bks.length := by have := (List.getElem?_eq_some_iff.1 hk).1; omega
  have HS := Lib.hid (And.intro s0 (And.intro s1 s2))
  have HN := Lib.hid (show nextE pt bks head (k, t, a1, b1, nm, ot) by_ pad = ((k, t, a1, b1, nm, ot), (by_ : Int), (pad : Int), headD pt M, (headD bk.1 M + pd) % P31) from by unfold nextE; rw [HMEq.out, List.getD_eq_getElem?_getD, hk]; simp only [Option.getD_some]; rw [List.getD_eq_getElem?_getD, hpd]; rfl)
  have k2 : (pad : Int) < bk.2.length := by have := (List.getElem?_eq_some_iff.1 hpd).1; omega
  have k3 : (0 : Int) ≤ pad := by omega
  have hD1 : headD pt M < 2147483647 := horner_lt (by decide) _ _
  have hD2 : headD bk.1 M < 2147483647 := horner_lt (by decide) _ _
  have CD1 := Lib.hid (fun W hb hP hQ hA => digest_any 2147483647 3 pt BL oL c7 (some ⟨g7, 0, none⟩) M W (by decide) (by decide) hpt (by decide) (by decide) HMB.out HMN.out hb hP hQ hA)
  have CD2 := Lib.hid (fun W hb hP hQ hA => digest_any 2147483647 3 bk.1 BL oL c7 (some ⟨g7, 0, none⟩) M W (by decide) (by decide) hbp (by decide) (by decide) HMB.out HMN.out hb hP hQ hA)
  have hDe1 : dig 2147483647 3 pt M = headD pt M := rfl
  have hDe2 : dig 2147483647 3 bk.1 M = headD bk.1 M := rfl
  rw [hDe1] at CD1
  rw [hDe2] at CD2
  have hwS : IntKind.u64.wrap ((headD bk.1 M : Int) + pd) = ((headD bk.1 M + pd : Nat) : Int) := by rw [show ((headD bk.1 M : Int) + pd) = ((headD bk.1 M + pd : Nat) : Int) by push_cast; rfl]; exact Go.IntWalk.u64_in _ ⟨by omega, by omega⟩
  have hwM : ((headD bk.1 M + pd : Nat) : Int).tmod 2147483647 = (((headD bk.1 M + pd) % P31 : Nat) : Int) := by rw [Int.tmod_eq_emod_of_nonneg (by omega)]; rfl
  have hwD : ((headD bk.1 M : Int) + pd) % 2147483647 = (((headD bk.1 M + pd) % P31 : Nat) : Int) := by rw [show P31 = 2147483647 from rfl]; omega
  have hwT : ((headD bk.1 M : Int) + pd).tmod 2147483647 = (((headD bk.1 M + pd) % P31 : Nat) : Int) := by rw [Int.tmod_eq_emod_of_nonneg (by omega)]; exact hwD
  have HEV := Lib.hid (blk_step HF.out.1 HW8.out)
  have HZ8 := Lib.hid (blk_step HF.out.2.1 HW8.out)
  have HX8 := Lib.hid (bStep HF.out.2.2 HW8.out)
  have HGN : Hid (g7 ≠ w.heap.size + 1 ∧ BL ≠ w.heap.size + 1 ∧ w.heap.size ≠ w.heap.size + 1) := ⟨by have := HG7.out.1; have := blk_lt HF.out.2.1; omega, by have := HL.out.1.1; have := HG7.out; have := blk_lt HF.out.2.1; omega, by omega⟩
  generalize hq1 : headD pt M = D1 at *
  generalize hq2 : headD bk.1 M = D2 at *
  generalize hq3 : (D2 + pd) % P31 = D3 at *
  clear hq1 hq2 hq3 hD1 hD2 hDe1 hDe2 s0 s1 s2 hcs hpc hpd2 hpd hk hpl hl8 hbb hbp2 hpt hbp hp31
  have k9 := 0
  have k0 : (0 : Int) ≤ by_ := by omega
  go_upto_region 5 with fail
  refine region_all 29 14 80 [(28, 80)] [(none, []), (none, []), (none, []), (none, []), (none, []), (none, []), (none, []), (none, []), (none, []), (none, []), (none, []), (none, []), (none, []), (none, []), (none, []), (none, []), (none, []), (none, []), (none, []), (none, []), (none, []), (none, []), (none, []), (none, []), (none, []), (none, []), (none, []), (none, []), (some 0, [])] [(52, (.agg #[.int .i64 k, .int .i64 t, .int .i64 a1, .int .i64 b1, .string nm, .string ot])), (53, (.int .i64 (by_ : Int))), (54, (.int .i64 (pad : Int))), (55, (.pointer (some ⟨BL, oL, none⟩))), (56, (.int .u64 (pt : Int))), (57, (.slice (some ⟨g7, 0, none⟩) M.length c7)), (58, (.int .u64 (D1 : Int))), (59, (.pointer (some ⟨BL, oL, none⟩))), (60, (.pointer (some ⟨bb, ob + by_ * 2, none⟩))), (61, (.pointer (some ⟨bb, ob + by_ * 2, none⟩))), (62, (.pointer (some ⟨bb, ob + by_ * 2, none⟩))), (63, (.int .u64 (bk.1 : Int))), (64, (.slice (some ⟨g7, 0, none⟩) M.length c7)), (65, (.int .u64 (D2 : Int))), (66, (.pointer (some ⟨bb, ob + by_ * 2, none⟩))), (67, (.pointer (some ⟨bb, ob + by_ * 2, none⟩))), (68, (.pointer (some ⟨bb, ob + by_ * 2 + 1, none⟩))), (69, (.slice (some ⟨bp, op, none⟩) bk.2.length cp)), (70, (.int .i64 (pad : Int))), (71, (.pointer (some ⟨bp, op + pad, none⟩))), (72, (.int .u64 (pd : Int))), (73, (.int .u64 ((D2 + pd : Nat) : Int))), (74, (.pointer (some ⟨BL, oL, none⟩))), (75, (.pointer (some ⟨BL, oL, none⟩))), (76, (.pointer (some ⟨BL, oL, none⟩))), (77, (.int .u64 2147483647)), (78, (.int .u64 (D3 : Int))), (79, (entX ((k, t, a1, b1, nm, ot), (by_ : Int), (pad : Int), D1, D3)))] (fun bsE vsE W => Nx5 w w8 (entC ((k, t, a1, b1, nm, ot), (by_ : Int), (pad : Int), D1, D3)).toArray (bsE.getD 0 false) W) (by kernel_rfl) (by kernel_rfl) rfl rfl (by kernel_rfl) (by rfl) ?h0 ?each ?done
  case h0 =>
   intro vsE hlv
   obtain ⟨v0, rfl⟩ := ll1 hlv
   exact ⟨(OnlyB.start HZ8.out).step (Below.refl _ _).drew, HX8.out.drew, HZ8.out⟩
  case each =>
   simp only [AllE]
   refine ⟨⟨52, (.agg #[.int .i64 k, .int .i64 t, .int .i64 a1, .int .i64 b1, .string nm, .string ot]), rfl, by kernel_rfl, ?_⟩, ⟨53, (.int .i64 (by_ : Int)), rfl, by kernel_rfl, ?_⟩, ⟨54, (.int .i64 (pad : Int)), rfl, by kernel_rfl, ?_⟩, ⟨55, (.pointer (some ⟨BL, oL, none⟩)), rfl, by kernel_rfl, ?_⟩, ⟨56, (.int .u64 (pt : Int)), rfl, by kernel_rfl, ?_⟩, ⟨57, (.slice (some ⟨g7, 0, none⟩) M.length c7), rfl, by kernel_rfl, ?_⟩, ⟨58, (.int .u64 (D1 : Int)), rfl, by kernel_rfl, ?q1_6⟩, ⟨59, (.pointer (some ⟨BL, oL, none⟩)), rfl, by kernel_rfl, ?_⟩, ⟨60, (.pointer (some ⟨bb, ob + by_ * 2, none⟩)), rfl, by kernel_rfl, ?_⟩, ⟨61, (.pointer (some ⟨bb, ob + by_ * 2, none⟩)), rfl, by kernel_rfl, ?_⟩, ⟨62, (.pointer (some ⟨bb, ob + by_ * 2, none⟩)), rfl, by kernel_rfl, ?_⟩, ⟨63, (.int .u64 (bk.1 : Int)), rfl, by kernel_rfl, ?_⟩, ⟨64, (.slice (some ⟨g7, 0, none⟩) M.length c7), rfl, by kernel_rfl, ?_⟩, ⟨65, (.int .u64 (D2 : Int)), rfl, by kernel_rfl, ?q1_13⟩, ⟨66, (.pointer (some ⟨bb, ob + by_ * 2, none⟩)), rfl, by kernel_rfl, ?_⟩, ⟨67, (.pointer (some ⟨bb, ob + by_ * 2, none⟩)), rfl, by kernel_rfl, ?_⟩, ⟨68, (.pointer (some ⟨bb, ob + by_ * 2 + 1, none⟩)), rfl, by kernel_rfl, ?_⟩, ⟨69, (.slice (some ⟨bp, op, none⟩) bk.2.length cp), rfl, by kernel_rfl, ?_⟩, ⟨70, (.int .i64 (pad : Int)), rfl, by kernel_rfl, ?_⟩, ⟨71, (.pointer (some ⟨bp, op + pad, none⟩)), rfl, by kernel_rfl, ?_⟩, ⟨72, (.int .u64 (pd : Int)), rfl, by kernel_rfl, ?_⟩, ⟨73, (.int .u64 ((D2 + pd : Nat) : Int)), rfl, by kernel_rfl, ?_⟩, ⟨74, (.pointer (some ⟨BL, oL, none⟩)), rfl, by kernel_rfl, ?_⟩, ⟨75, (.pointer (some ⟨BL, oL, none⟩)), rfl, by kernel_rfl, ?_⟩, ⟨76, (.pointer (some ⟨BL, oL, none⟩)), rfl, by kernel_rfl, ?_⟩, ⟨77, (.int .u64 2147483647), rfl, by kernel_rfl, ?_⟩, ⟨78, (.int .u64 (D3 : Int)), rfl, by kernel_rfl, ?_⟩, ⟨79, (entX ((k, t, a1, b1, nm, ot), (by_ : Int), (pad : Int), D1, D3)), rfl, by kernel_rfl, ?_⟩, Or.inr ⟨rfl, ?q1_28⟩, trivial⟩
   case q1_6 =>
    intro bsE vsE W hlb hlv hnd h
    obtain ⟨b0, rfl⟩ := ll1 hlb
    obtain ⟨v0, rfl⟩ := ll1 hlv
    replace h : Nx5 w w8 (entC ((k, t, a1, b1, nm, ot), (by_ : Int), (pad : Int), D1, D3)).toArray b0 W := h
    clear hnd
    have HST := Lib.hid h
    have u0 := h.only.cell HGN.out.2.2 (blk_cell (o := 0) HEV.out rfl); have u1 := h.only.cell HGN.out.2.2 (blk_cell (o := 1) HEV.out rfl); have u2 := h.only.cell HGN.out.2.2 (blk_cell (o := 2) HEV.out rfl); have u3 := h.only.cell HGN.out.2.2 (blk_cell (o := 3) HEV.out rfl); have u4 := h.only.cell HGN.out.2.2 (blk_cell (o := 4) HEV.out rfl); have u5 := h.only.cell HGN.out.2.2 (blk_cell (o := 5) HEV.out rfl); have s0 := cell_step HS.out.1 h.bel; have s1 := cell_step HS.out.2.1 h.bel; have s2 := cell_step HS.out.2.2 h.bel; have l0 := h.only.cell HGN.out.2.1 HL.out.2.1; have lx := Nat.lt_of_lt_of_le HL.out.1.2 h.only.size
    intro K Q hK
    simp only [putE, updAll, Act.put, sl1, sl2, sl3, sl4] at hK ⊢
    go_wp2_with (go_at_call 41; refine (CD1.out _ (Nat.lt_of_lt_of_le HL.out.1.2 h.only.size) (h.only.cell HGN.out.2.1 HL.out.2.1) (h.only.cell HGN.out.2.1 HL.out.2.2) (BytV.only HBT.out h.only HGN.out.1)).mono ?_; rintro e w9 ⟨rfl, hb9⟩)
    all_goals (first | exact hK _ (h.step hb9) | exact (h.step hb9))
   case q1_13 =>
    intro bsE vsE W hlb hlv hnd h
    obtain ⟨b0, rfl⟩ := ll1 hlb
    obtain ⟨v0, rfl⟩ := ll1 hlv
    replace h : Nx5 w w8 (entC ((k, t, a1, b1, nm, ot), (by_ : Int), (pad : Int), D1, D3)).toArray b0 W := h
    clear hnd
    have HST := Lib.hid h
    have u0 := h.only.cell HGN.out.2.2 (blk_cell (o := 0) HEV.out rfl); have u1 := h.only.cell HGN.out.2.2 (blk_cell (o := 1) HEV.out rfl); have u2 := h.only.cell HGN.out.2.2 (blk_cell (o := 2) HEV.out rfl); have u3 := h.only.cell HGN.out.2.2 (blk_cell (o := 3) HEV.out rfl); have u4 := h.only.cell HGN.out.2.2 (blk_cell (o := 4) HEV.out rfl); have u5 := h.only.cell HGN.out.2.2 (blk_cell (o := 5) HEV.out rfl); have s0 := cell_step HS.out.1 h.bel; have s1 := cell_step HS.out.2.1 h.bel; have s2 := cell_step HS.out.2.2 h.bel; have l0 := h.only.cell HGN.out.2.1 HL.out.2.1; have lx := Nat.lt_of_lt_of_le HL.out.1.2 h.only.size
    intro K Q hK
    simp only [putE, updAll, Act.put, sl1, sl2, sl3, sl4] at hK ⊢
    go_wp2_with (go_at_call 41; refine (CD2.out _ (Nat.lt_of_lt_of_le HL.out.1.2 h.only.size) (h.only.cell HGN.out.2.1 HL.out.2.1) (h.only.cell HGN.out.2.1 HL.out.2.2) (BytV.only HBT.out h.only HGN.out.1)).mono ?_; rintro e w9 ⟨rfl, hb9⟩)
    all_goals (first | exact hK _ (h.step hb9) | exact (h.step hb9))
   case q1_28 =>
    intro bsE vsE W hlb hlv hnd hbk h
    obtain ⟨b0, rfl⟩ := ll1 hlb
    obtain ⟨v0, rfl⟩ := ll1 hlv
    obtain rfl : b0 = false := hbk
    replace h : Nx5 w w8 (entC ((k, t, a1, b1, nm, ot), (by_ : Int), (pad : Int), D1, D3)).toArray false W := h
    clear hnd
    have HST := Lib.hid h
    have hz : W.heap[w.heap.size + 1]? = some (.cells #[.int .i64 0, .int .i64 0, .int .i64 0, .int .i64 0, .string ⟨#[]⟩, .string ⟨#[]⟩, .int .i64 0, .int .i64 0, .int .u64 0, .int .u64 0] 31 (0, 0)) := h.blk; have z0 := blk_cell (o := 0) hz rfl; have f0 := blk_free (o := 0) hz; have z1 := blk_cell (o := 1) hz rfl; have f1 := blk_free (o := 1) hz; have z2 := blk_cell (o := 2) hz rfl; have f2 := blk_free (o := 2) hz; have z3 := blk_cell (o := 3) hz rfl; have f3 := blk_free (o := 3) hz; have z4 := blk_cell (o := 4) hz rfl; have f4 := blk_free (o := 4) hz; have z5 := blk_cell (o := 5) hz rfl; have f5 := blk_free (o := 5) hz; have z6 := blk_cell (o := 6) hz rfl; have f6 := blk_free (o := 6) hz; have z7 := blk_cell (o := 7) hz rfl; have f7 := blk_free (o := 7) hz; have z8 := blk_cell (o := 8) hz rfl; have f8 := blk_free (o := 8) hz; have z9 := blk_cell (o := 9) hz rfl; have f9 := blk_free (o := 9) hz; have zl := blk_lt hz; clear hz
    intro K Q hK
    simp only [putE, updAll, Act.put, sl1, sl2, sl3, sl4] at hK ⊢
    unfold entX entC
    go_wp2_with fail
    all_goals (first | exact hK _ h.fin | exact h.fin)
   all_goals
    intro bsE vsE W hlb hlv hnd h
    obtain ⟨b0, rfl⟩ := ll1 hlb
    obtain ⟨v0, rfl⟩ := ll1 hlv
    replace h : Nx5 w w8 (entC ((k, t, a1, b1, nm, ot), (by_ : Int), (pad : Int), D1, D3)).toArray b0 W := h
    clear hnd
    have HST := Lib.hid h
    have u0 := h.only.cell HGN.out.2.2 (blk_cell (o := 0) HEV.out rfl); have u1 := h.only.cell HGN.out.2.2 (blk_cell (o := 1) HEV.out rfl); have u2 := h.only.cell HGN.out.2.2 (blk_cell (o := 2) HEV.out rfl); have u3 := h.only.cell HGN.out.2.2 (blk_cell (o := 3) HEV.out rfl); have u4 := h.only.cell HGN.out.2.2 (blk_cell (o := 4) HEV.out rfl); have u5 := h.only.cell HGN.out.2.2 (blk_cell (o := 5) HEV.out rfl); have s0 := cell_step HS.out.1 h.bel; have s1 := cell_step HS.out.2.1 h.bel; have s2 := cell_step HS.out.2.2 h.bel; have l0 := h.only.cell HGN.out.2.1 HL.out.2.1; have lx := Nat.lt_of_lt_of_le HL.out.1.2 h.only.size
    intro K Q hK
    simp only [putE, updAll, Act.put, sl1, sl2, sl3, sl4] at hK ⊢
    go_wp2_with (fail)
    all_goals (first | exact hK _ h | exact h)
  case done =>
   intro vsE W hlv h
   obtain ⟨v0, rfl⟩ := ll1 hlv
   replace h : Nx5 w w8 (entC ((k, t, a1, b1, nm, ot), (by_ : Int), (pad : Int), D1, D3)).toArray true W := h
   have HST := Lib.hid h
   have H5 := Lib.hid h.blk
   have H6 := Lib.hid h.bel
   clear h HST
   simp only [putE, updAll, Act.put, sl1, sl2, sl3, sl4]
   go_wp2_with fail
   refine bodyPost_ret (v := entX ((k, t, a1, b1, nm, ot), (by_ : Int), (pad : Int), D1, D3)) (res_cell1 Tryz.results45 rfl (ent_load H5.out)) rfl ⟨by rw [HN.out], H6.out⟩
end Go.Proofs.YtmpilgkfbibhlaaGreatDoor
