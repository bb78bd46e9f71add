/-
 NewRegistry of package passport: the walk.
-/
import Derived.Test.YtmpilgkfbibhlaaGreatDoorG0Y
import Derived.Test.YtmpilgkfbibhlaaGreatDoorG27Y
set_option linter.unusedSimpArgs false
set_option linter.unusedVariables false
namespace Go.Proofs.YtmpilgkfbibhlaaGreatDoor
open Sx Go.RowKit Mr
structure NrI (w : World) (R pt : Nat) (bks : List Bk) (vb : Value) (W : World) : Prop where
 bel : Below w.heap.size w W
 hR : w.heap.size ≤ R
 reg : W.heap[R]? = some (.cells (regC ⟨pt, bks, List.replicate 8 0, []⟩ vb nilV).toArray 121 (0, 0))
 bk : BkO w.heap.size bks vb W
def newA (pt : Nat) (bks : List Bk) : RegA := ⟨pt, bks, List.replicate 8 0, []⟩
def newS (pt : Nat) (bks : List Bk) : RegS := ⟨pt, bks, List.replicate 8 0, []⟩
structure NbS (P0 P2 : World → Prop) (Bs T : Nat) (cT : Array Value) (ptb : Nat) (ns : List Nat) (vb : Value) (n : Nat) (xs : List Value) (b0 b1 b2 b3 b4 b5 : Bool) (v0 v1 v2 v3 v4 : Value) (W : World) : Prop where
 a : b4 = false → P0 W
 m : b4 = true → b5 = false → ∃ Wb, P0 Wb ∧ Wb.grownBy W vb.ownBlock ∧ W.ownsRow Bs 85 2 v4 (n + 1) (xs ++ [.int .u64 (ptb : Int), v1])
 z : b5 = true → P2 W
 t : W.heap[T]? = some (.cells cT 85 (0, 0))
 r0 : b0 = true → v0 = vb
 r1 : b1 = true → b5 = false → W.ownsRow Bs 22 1 v1 ns.length (padC ns)
 r2 : b2 = true → v2 = .agg #[.int .u64 (ptb : Int), v1]
 r3 : b3 = true → b4 = false → ∃ g, v3 = .slice (some ⟨g, 0, none⟩) 1 1 ∧ W.heap[g]? = some (.cells #[.int .u64 (ptb : Int), v1] 85 (0, 0))
 n0 : b0 = false → b4 = false
 n1 : b1 = false → b2 = false
 n2 : b2 = false → b3 = false
 n3 : b3 = false → b4 = false
 n4 : b4 = false → b5 = false
 hb : Bs ≤ W.heap.size
structure NrQ (w : World) (R pt : Nat) (bks : List Bk) (i : Nat) (vb : Value) (l : List (Bk × Value)) (W : World) : Prop where
 n : NrI w R pt (bks.take i) vb W
 o : W.ownsRow w.heap.size 85 2 vb i (flatB l)
 p : ∀ x ∈ l, W.ownsRow w.heap.size 22 1 x.2 x.1.2.length (padC x.1.2)
theorem infoBk : (Tryz.prog.info? 85).map (fun i => (i.zero, i.size, i.bytes)) = some (some (.agg #[.int .u64 0, .slice none 0 0]), 2, 32) := by kernel_rfl
section
variable {P0 P2 : World → Prop} {Bs T ptb n : Nat} {cT : Array Value} {ns : List Nat} {xs : List Value} {vb : Value} {b0 b1 b2 b3 b4 b5 : Bool} {v0 v1 v2 v3 v4 v9 : Value} {W w2 : World}
theorem NbS.step (hP : ∀ W w2, P0 W → Below W.heap.size W w2 → P0 w2) (h : NbS P0 P2 Bs T cT ptb ns vb n xs b0 b1 b2 b3 false false v0 v1 v2 v3 v4 W) (hb : Below W.heap.size W w2) : NbS P0 P2 Bs T cT ptb ns vb n xs b0 b1 b2 b3 false false v0 v1 v2 v3 v4 w2 :=
 ⟨fun e => hP _ _ (h.a e) hb, (fun e => by cases e), (fun e => by cases e), blk_step h.t hb, h.r0, fun e1 e2 => own_step (h.r1 e1 e2) hb, h.r2, fun e1 e2 => by obtain ⟨g, q1, q2⟩ := h.r3 e1 e2; exact ⟨g, q1, blk_step q2 hb⟩, h.n0, h.n1, h.n2, h.n3, h.n4, Nat.le_trans h.hb hb.size⟩
theorem NbS.mk0 (h : NbS P0 P2 Bs T cT ptb ns vb n xs false b1 b2 b3 false false v0 v1 v2 v3 v4 W) : NbS P0 P2 Bs T cT ptb ns vb n xs true b1 b2 b3 false false vb v1 v2 v3 v4 W :=
 ⟨h.a, h.m, h.z, h.t, (fun _ => rfl), h.r1, h.r2, h.r3, (fun e => by cases e), h.n1, h.n2, h.n3, h.n4, h.hb⟩
theorem NbS.mk1 (hP : ∀ W w2, P0 W → Below W.heap.size W w2 → P0 w2) (h : NbS P0 P2 Bs T cT ptb ns vb n xs b0 false false false false false v0 v1 v2 v3 v4 W) (hb : Below W.heap.size W w2) (ho : w2.ownsRow W.heap.size 22 1 v9 ns.length (padC ns)) :
  NbS P0 P2 Bs T cT ptb ns vb n xs b0 true false false false false v0 v9 v2 v3 v4 w2 := by
 have h2 := h.step hP hb
 exact ⟨h2.a, (fun e => by cases e), h2.z, h2.t, h2.r0, (fun _ _ => own_low ho h.hb), (fun e => by cases e), (fun e => by cases e), h2.n0, (fun e => by cases e), h2.n2, h2.n3, h2.n4, h2.hb⟩
theorem NbS.mk2 (h : NbS P0 P2 Bs T cT ptb ns vb n xs b0 true false false false false v0 v1 v2 v3 v4 W) : NbS P0 P2 Bs T cT ptb ns vb n xs b0 true true false false false v0 v1 (.agg #[.int .u64 (ptb : Int), v1]) v3 v4 W :=
 ⟨h.a, h.m, h.z, h.t, h.r0, h.r1, (fun _ => rfl), h.r3, h.n0, (fun e => by cases e), (fun e => by cases e), h.n3, h.n4, h.hb⟩
theorem NbS.mk3 (hP : ∀ W w2, P0 W → Below W.heap.size W w2 → P0 w2) (h : NbS P0 P2 Bs T cT ptb ns vb n xs b0 b1 true false false false v0 v1 v2 v3 v4 W) : NbS P0 P2 Bs T cT ptb ns vb n xs b0 b1 true true false false v0 v1 v2 (.slice (some ⟨W.heap.size, 0, none⟩) 1 1) v4 (W.alloc (.cells #[.int .u64 (ptb : Int), v1] 85)) := by
 have h := h.step hP (bAl (W := W) (o := .cells #[.int .u64 (ptb : Int), v1] 85))
 exact ⟨h.a, h.m, h.z, h.t, h.r0, h.r1, h.r2, (fun _ _ => ⟨_, rfl, blk_new W _⟩), h.n0, h.n1, (fun e => by cases e), (fun e => by cases e), h.n4, h.hb⟩
theorem NbS.app {o : Oper} {a : Act} {K : Act → World → Prop} {Q : Exit → Act → World → Prop} (hown : ∀ W, P0 W → W.ownsRow Bs 85 2 vb n xs) (hT : ∀ k, vb.ownBlock = some k → k ≠ T) (hn : n ≤ 100000) (hone : v1.oneCell' = true) (h : NbS P0 P2 Bs T cT ptb ns vb n xs true b1 b2 true false false v0 v1 v2 v3 v4 W)
  (s p : Operand) (ho : o.op = .call { callee := .builtin .append, args := #[s, p], argTypes := #[23, 23] }) (hs : a.eval s = v0) (hp : a.eval p = v3)
  (hK : ∀ v' W', NbS P0 P2 Bs T cT ptb ns vb n xs true b1 b2 true true false v0 v1 v2 v3 v' W' → K (a.put o.dst v') W') : o.wp Tryz.prog a W K Q := by
 obtain ⟨i0, hi, hz0, hz1, hz2⟩ := info_parts infoBk
 obtain rfl := h.r0 rfl
 obtain ⟨g, rfl, hg⟩ := h.r3 rfl rfl
 have hv := hown W (h.a rfl)
 refine wp_app (P := Tryz.prog) W s p 23 ho Bs 85 i0 _ 2 32 Tryz.underlying23 hi hz0 hz1 hz2 rfl (by decide) v0 n xs hs hv (some ⟨g, 0, none⟩) 1 1 [.int .u64 (ptb : Int), v1] hp rfl (fun _ => ⟨g, 0, rfl, fun j u hu => blk_cell hg (by rw [Nat.zero_add]; simpa using hu)⟩) (fun u hu => ?_) (by unfold maxLen; omega) (by omega) h.hb fun v' W' q1 q2 q3 => hK v' W' ?_
 ·simp only [List.mem_cons, List.not_mem_nil, or_false] at hu
  rcases hu with rfl | rfl
  ·rfl
  ·exact hone
 ·exact ⟨(fun e => by cases e), (fun _ _ => ⟨W, h.a rfl, q2, q1⟩), (fun e => by cases e), (q2.block T (blk_lt h.t) (fun c => hT T c.symm rfl)).trans h.t, (fun _ => rfl), (fun e1 e2 => own_kept (h.r1 e1 e2) q2 hv (by decide)), h.r2, (fun _ e => by cases e), (fun e => by cases e), h.n1, h.n2, (fun e => by cases e), (fun e => by cases e), Nat.le_trans h.hb q2.size⟩
end
theorem NrI.put {w Wb W : World} {R pt : Nat} {bks : List Bk} {vb v4 v1 : Value} {bk : Bk} {l : List (Bk × Value)} (h : NrI w R pt bks vb Wb) (hl : l.map (·.1) = bks) (hvb : Wb.ownsRow w.heap.size 85 2 vb bks.length (flatB l)) (hps : ∀ x ∈ l, Wb.ownsRow w.heap.size 22 1 x.2 x.1.2.length (padC x.1.2))
  (hg : Wb.grownBy W vb.ownBlock) (ho : W.ownsRow w.heap.size 85 2 v4 (bks.length + 1) (flatB l ++ [.int .u64 (bk.1 : Int), v1])) (h1 : W.ownsRow w.heap.size 22 1 v1 bk.2.length (padC bk.2)) :
  W.cell? ⟨R, 1, none⟩ = some vb ∧ W.frozen? ⟨R, 1, none⟩ = false ∧ R < W.heap.size ∧ NrI w R pt (bks ++ [bk]) v4 (W.setCell ⟨R, 1, none⟩ v4) := by
 have hR := blk_kept h.reg hg hvb (by decide)
 refine ⟨blk_cell hR rfl, blk_free hR, blk_lt hR, ?_, h.hR, ?_, ⟨l ++ [(bk, v1)], ?_, ?_, fun x hx => ?_⟩⟩
 ·exact (h.bel.grown hg (Nat.le_trans h.bel.size (Nat.le_refl _)) fun k hk => (World.ownsRow.lt hvb k hk).1).setCell h.hR _
 ·exact blk_set hR
 ·rw [List.map_append, hl]; rfl
 ·rw [List.length_append, flatB_snoc]
  exact own_setT ho hR (by decide)
 ·rcases List.mem_append.1 hx with hx | hx
  ·exact own_setT (own_kept (hps x hx) hg hvb (by decide)) hR (by decide)
  ·obtain rfl := List.mem_singleton.1 hx
   exact own_setT h1 hR (by decide)
theorem NrI.step {w W w2 : World} {R pt : Nat} {bks : List Bk} {vb : Value} (h : NrI w R pt bks vb W) (hb : Below W.heap.size W w2) : NrI w R pt bks vb w2 := ⟨bStep h.bel hb, h.hR, blk_step h.reg hb, h.bk.step hb⟩
theorem PadV.step9 {v : Value} {ns : List Nat} {W w2 : World} (h : PadV v ns W) (hb : Below W.heap.size W w2) : PadV v ns w2 := by
 obtain ⟨a, c, h1, h2⟩ := h
 refine ⟨a, c, h1, fun hn => ?_⟩
 obtain ⟨b, off, e1, e2, e3⟩ := h2 hn
 exact ⟨b, off, e1, Nat.lt_of_lt_of_le e2 hb.size, fun k n hk => cell_step (e3 k n hk) hb⟩
theorem NrI.view {w W : World} {R pt : Nat} {bks : List Bk} {vb : Value} (h : NrI w R pt bks vb W) : RegV w.heap.size R vb (newA pt bks) (newS pt bks) nilV W := by
 refine ⟨⟨h.reg, rfl, h.bk.bk, ⟨rfl, Or.inl ⟨rfl, rfl⟩⟩, (fun q hq => by cases hq), (fun q hq => by cases hq), (fun i j p q _ hp => by cases hp), h.hR⟩, rfl, (fun q hq => by cases hq)⟩
set_option maxHeartbeats 8000000 in
set_option maxRecDepth 20000 in
theorem New_ok {ab : Option Addr} {bks : List Bk} {w : World} (pt cb : Nat) (hB : BksAt ab bks w) (hl : bks.length ≤ 1000000 ∧ ∀ bk ∈ bks, bk.2.length ≤ 1000000) (h : secR pt bks = 0) : Calls Tryz.prog 24 #[.int .u64 (pt : Int), .slice ab bks.length cb] w fun en w' => ∃ R vb, en = .returned (.tuple #[.pointer (some ⟨R, 0, none⟩), .int .i64 0]) ∧ RegV w.heap.size R vb (newA pt bks) (newS pt bks) nilV w' ∧ Below w.heap.size w w' := by
 have CS := Lib.hid (Secrets_any pt cb hB hl)
 rw [h] at CS
 have H := Lib.hid hB
 have HL := Lib.hid hl.2
 have hl1 := hl.1
 have HL9 := Lib.hid (show bks.length ≤ 8 from (secR_ok h).2.1.2)
 clear hB hl h
 go_enter Tryz.func24, Tryz.ntmps24
 go_upto_region 5 with (go_at_call 38; refine CS.out.mono ?_; rintro e w1 ⟨rfl, hb1⟩)
 have HI0 : Hid (NrI w w1.heap.size pt [] (.slice none 0 0) (w1.alloc (.cells #[.int .u64 (pt : Int), .slice none 0 0, .int .i64 0, .int .i64 0, .int .i64 0, .int .i64 0, .int .i64 0, .int .i64 0, .int .i64 0, .int .i64 0, .slice none 0 0] 121))) := ⟨bStep hb1 bAl, hb1.size, blk_new w1 _, BkO.nil _ _⟩
 clear hb1
 generalize w1.alloc _ = w2 at *
 generalize w1.heap.size = R at *
 go_wp2_with fail
 go_loopw [21] (fun ix wr => ∃ i : Nat, i ≤ bks.length ∧ ix = .int .i64 i ∧ Hid (∃ vb, NrI w R pt (bks.take i) vb wr)) (fun ix _ => bks.length - (intOf ix).toNat)
 case atStart => exact ⟨0, by omega, rfl, _, HI0.out⟩
 case round =>
  obtain ⟨i, hi, rfl, HS⟩ := hrel
  by_cases hc : i < bks.length
  ·have c1 : (i : Int) < bks.length := by omega
   have c0 : (0 : Int) ≤ i := by omega
   obtain ⟨vb, hS⟩ := HS.out
   obtain ⟨bk, hk⟩ : ∃ bk, bks[i]? = some bk := ⟨bks[i], List.getElem?_eq_getElem hc⟩
   obtain ⟨bb, ob, rfl, hbb, hbc⟩ := H.out (by rintro e; rw [e] at hc; simp at hc)
   obtain ⟨s0, vpd, s1, hpv⟩ := hbc i bk hk
   have hpl := HL.out bk (List.mem_of_getElem? hk)
   have CC := Lib.hid (fun W (hW : Below w.heap.size w W) => clonePad_any (PadV.step9 hpv hW) hpl)
   obtain ⟨ap, cpd, rfl, -⟩ := hpv
   have g0 := cell_step s0 hS.bel
   have g1 := cell_step s1 hS.bel
   have lb := Nat.lt_of_lt_of_le hbb hS.bel.size
   have HIL := Lib.hid hi
   have HIN := Lib.hid (show i ≤ 100000 by have := HL9.out; omega)
   have HTK : Hid (bks.take i ++ [bk] = bks.take (i + 1)) := by unfold Hid; rw [List.take_add_one, hk]; rfl
   have HSS := Lib.hid hS
   clear hbc s0 s1 hk hc hpl hS HS hbb
   go_upto_region 8 with fail
   have HT := Lib.hid (blk_new wr (.cells #[.int .u64 (bk.1 : Int), .slice ap bk.2.length cpd] 85))
   obtain ⟨l, l1, l2, l3⟩ := HSS.out.bk.o
   have HLM := Lib.hid l1
   have HVT : Hid (∀ k, vb.ownBlock = some k → k ≠ wr.heap.size) := fun k hk e => by have := (World.ownsRow.lt l2 k hk).2; omega
   have HTR : Hid (wr.heap.size ≠ R) := fun e => by have := blk_lt HSS.out.reg; omega
   rw [List.length_take, Nat.min_eq_left HIL.out] at l2
   have HP0 : Hid ((NrQ w R pt bks i vb l) (wr.alloc (.cells #[.int .u64 (bk.1 : Int), .slice ap bk.2.length cpd] 85))) := ⟨HSS.out.step bAl, own_step l2 bAl, fun x hx => own_step (l3 x hx) bAl⟩
   have HPS : Hid (∀ W w2, (NrQ w R pt bks i vb l) W → Below W.heap.size W w2 → (NrQ w R pt bks i vb l) w2) := fun W w2 hW hb => ⟨hW.n.step hb, own_step hW.o hb, fun x hx => own_step (hW.p x hx) hb⟩
   clear l1 l2 l3 g0 g1 lb HSS
   generalize wr.alloc (.cells #[.int .u64 (bk.1 : Int), .slice ap bk.2.length cpd] 85) = W9 at *
   generalize wr.heap.size = T at *
   refine region_all 16 16 42 [(4, 29), (9, 34), (10, 35), (11, 36), (12, 37), (15, 47)] [(none, []), (none, []), (none, []), (none, []), (some 0, []), (none, []), (none, []), (none, []), (none, []), (some 1, []), (some 2, [1]), (some 3, [2]), (some 4, [0, 1, 3]), (none, []), (none, []), (some 5, [1, 4])] [(25, (.pointer (some ⟨R, 0, none⟩))), (26, (.pointer (some ⟨R, 0, none⟩))), (27, (.pointer (some ⟨R, 0, none⟩))), (28, (.pointer (some ⟨R, 1, none⟩))), (30, (.pointer (some ⟨T, 0, none⟩))), (31, (.int .u64 (bk.1 : Int))), (32, (.pointer (some ⟨T, 1, none⟩))), (33, (.slice ap bk.2.length cpd)), (38, (.pointer (some ⟨R, 0, none⟩))), (39, (.pointer (some ⟨R, 1, none⟩)))] (fun bsE vsE W => NbS (NrQ w R pt bks i vb l) (fun W => ∃ vb, NrI w R pt (bks.take (i + 1)) vb W) w.heap.size T #[.int .u64 (bk.1 : Int), .slice ap bk.2.length cpd] bk.1 bk.2 vb i (flatB l) (bsE.getD 0 false) (bsE.getD 1 false) (bsE.getD 2 false) (bsE.getD 3 false) (bsE.getD 4 false) (bsE.getD 5 false) ((vsE.getD 0 undef)) ((vsE.getD 1 undef)) ((vsE.getD 2 undef)) ((vsE.getD 3 undef)) ((vsE.getD 4 undef)) W) (by kernel_rfl) (by kernel_rfl) rfl rfl (by kernel_rfl) (by rfl) ?h0 ?each ?done
   case h0 =>
    intro vsE hlv
    obtain ⟨v0, v1, v2, v3, v4, v5, rfl⟩ := ll6 hlv
    exact ⟨(fun _ => HPS.out _ _ HP0.out (Below.refl _ _).drew), (fun e => by cases e), (fun e => by cases e), blk_step HT.out (Below.refl _ _).drew, (fun e => by cases e), (fun e => by cases e), (fun e => by cases e), (fun e => by cases e), (fun _ => rfl), (fun _ => rfl), (fun _ => rfl), (fun _ => rfl), (fun _ => rfl), (HPS.out _ _ HP0.out (Below.refl _ _).drew).n.bel.size⟩
   case each =>
    simp only [AllE]
    refine ⟨⟨25, (.pointer (some ⟨R, 0, none⟩)), rfl, by kernel_rfl, ?_⟩, ⟨26, (.pointer (some ⟨R, 0, none⟩)), rfl, by kernel_rfl, ?_⟩, ⟨27, (.pointer (some ⟨R, 0, none⟩)), rfl, by kernel_rfl, ?_⟩, ⟨28, (.pointer (some ⟨R, 1, none⟩)), rfl, by kernel_rfl, ?_⟩, Or.inl ⟨29, rfl, ?q1_4⟩, ⟨30, (.pointer (some ⟨T, 0, none⟩)), rfl, by kernel_rfl, ?_⟩, ⟨31, (.int .u64 (bk.1 : Int)), rfl, by kernel_rfl, ?_⟩, ⟨32, (.pointer (some ⟨T, 1, none⟩)), rfl, by kernel_rfl, ?_⟩, ⟨33, (.slice ap bk.2.length cpd), rfl, by kernel_rfl, ?_⟩, Or.inl ⟨34, rfl, ?q1_9⟩, Or.inl ⟨35, rfl, ?q1_10⟩, Or.inl ⟨36, rfl, ?q1_11⟩, Or.inl ⟨37, rfl, ?q1_12⟩, ⟨38, (.pointer (some ⟨R, 0, none⟩)), rfl, by kernel_rfl, ?_⟩, ⟨39, (.pointer (some ⟨R, 1, none⟩)), rfl, by kernel_rfl, ?_⟩, Or.inr ⟨rfl, ?q1_15⟩, trivial⟩
    case q1_4 =>
     intro bsE vsE W hlb hlv hnd hbk h
     obtain ⟨b0, b1, b2, b3, b4, b5, rfl⟩ := ll6 hlb
     obtain ⟨v0, v1, v2, v3, v4, v5, rfl⟩ := ll6 hlv
     obtain rfl : b0 = false := hbk
     replace h : NbS (NrQ w R pt bks i vb l) (fun W => ∃ vb, NrI w R pt (bks.take (i + 1)) vb W) w.heap.size T #[.int .u64 (bk.1 : Int), .slice ap bk.2.length cpd] bk.1 bk.2 vb i (flatB l) false b1 b2 b3 b4 b5 (v0) (v1) (v2) (v3) (v4) W := h
     clear hnd
     have HST := Lib.hid h
     obtain rfl := h.n0 rfl; obtain rfl := h.n4 rfl; have c1 : W.cell? ⟨R, 1, none⟩ = some vb := blk_cell (o := 1) (h.a rfl).n.reg rfl; have cR := blk_lt (h.a rfl).n.reg
     intro K Q hK
     simp only [putE, updAll, Act.put, sl1, sl2, sl3, sl4] at hK ⊢
     go_wp2_with fail
     all_goals (have hm := h.mk0)
     all_goals (first | exact hK _ _ hm | exact hm)
    case q1_9 =>
     intro bsE vsE W hlb hlv hnd hbk h
     obtain ⟨b0, b1, b2, b3, b4, b5, rfl⟩ := ll6 hlb
     obtain ⟨v0, v1, v2, v3, v4, v5, rfl⟩ := ll6 hlv
     obtain rfl : b1 = false := hbk
     replace h : NbS (NrQ w R pt bks i vb l) (fun W => ∃ vb, NrI w R pt (bks.take (i + 1)) vb W) w.heap.size T #[.int .u64 (bk.1 : Int), .slice ap bk.2.length cpd] bk.1 bk.2 vb i (flatB l) b0 false b2 b3 b4 b5 (v0) (v1) (v2) (v3) (v4) W := h
     clear hnd
     have HST := Lib.hid h
     obtain rfl := h.n1 rfl; obtain rfl := h.n2 rfl; obtain rfl := h.n3 rfl; obtain rfl := h.n4 rfl
     intro K Q hK
     simp only [putE, updAll, Act.put, sl1, sl2, sl3, sl4] at hK ⊢
     go_wp2_with (go_at_call 69; refine (CC.out _ (h.a rfl).n.bel).mono ?_; rintro en w9 ⟨v9, rfl, ho9, hb9⟩)
     all_goals (have hm := h.mk1 HPS.out hb9 ho9)
     all_goals (first | exact hK _ _ hm | exact hm)
    case q1_10 =>
     intro bsE vsE W hlb hlv hnd hbk h
     obtain ⟨b0, b1, b2, b3, b4, b5, rfl⟩ := ll6 hlb
     obtain ⟨v0, v1, v2, v3, v4, v5, rfl⟩ := ll6 hlv
     obtain rfl : b1 = true := hnd 1 (by simp)
     obtain rfl : b2 = false := hbk
     replace h : NbS (NrQ w R pt bks i vb l) (fun W => ∃ vb, NrI w R pt (bks.take (i + 1)) vb W) w.heap.size T #[.int .u64 (bk.1 : Int), .slice ap bk.2.length cpd] bk.1 bk.2 vb i (flatB l) b0 true false b3 b4 b5 (v0) (v1) (v2) (v3) (v4) W := h
     clear hnd
     have HST := Lib.hid h
     obtain rfl := h.n2 rfl; obtain rfl := h.n3 rfl; obtain rfl := h.n4 rfl; obtain ⟨a9, c9, e9⟩ := row_slice (h.r1 rfl rfl); subst e9; have hm := h.mk2
     intro K Q hK
     simp only [putE, updAll, Act.put, sl1, sl2, sl3, sl4] at hK ⊢
     go_wp2_with fail
     all_goals (first | exact hK _ _ hm | exact hm)
    case q1_11 =>
     intro bsE vsE W hlb hlv hnd hbk h
     obtain ⟨b0, b1, b2, b3, b4, b5, rfl⟩ := ll6 hlb
     obtain ⟨v0, v1, v2, v3, v4, v5, rfl⟩ := ll6 hlv
     obtain rfl : b2 = true := hnd 2 (by simp)
     obtain rfl : b3 = false := hbk
     replace h : NbS (NrQ w R pt bks i vb l) (fun W => ∃ vb, NrI w R pt (bks.take (i + 1)) vb W) w.heap.size T #[.int .u64 (bk.1 : Int), .slice ap bk.2.length cpd] bk.1 bk.2 vb i (flatB l) b0 b1 true false b4 b5 (v0) (v1) (v2) (v3) (v4) W := h
     clear hnd
     have HST := Lib.hid h
     obtain rfl := h.n3 rfl; obtain rfl := h.n4 rfl; obtain rfl := h.r2 rfl; have hm := h.mk3 HPS.out
     intro K Q hK
     simp only [putE, updAll, Act.put, sl1, sl2, sl3, sl4] at hK ⊢
     go_wp2_with fail
     all_goals (first | exact hK _ _ hm | exact hm)
    case q1_12 =>
     intro bsE vsE W hlb hlv hnd hbk h
     obtain ⟨b0, b1, b2, b3, b4, b5, rfl⟩ := ll6 hlb
     obtain ⟨v0, v1, v2, v3, v4, v5, rfl⟩ := ll6 hlv
     obtain rfl : b0 = true := hnd 0 (by simp)
     obtain rfl : b1 = true := hnd 1 (by simp)
     obtain rfl : b3 = true := hnd 3 (by simp)
     obtain rfl : b4 = false := hbk
     replace h : NbS (NrQ w R pt bks i vb l) (fun W => ∃ vb, NrI w R pt (bks.take (i + 1)) vb W) w.heap.size T #[.int .u64 (bk.1 : Int), .slice ap bk.2.length cpd] bk.1 bk.2 vb i (flatB l) true true b2 true false b5 (v0) (v1) (v2) (v3) (v4) W := h
     clear hnd
     have HST := Lib.hid h
     obtain rfl := h.n4 rfl
     intro K Q hK
     simp only [putE, updAll, Act.put, sl1, sl2, sl3, sl4] at hK ⊢
     exact h.app (fun W hW => hW.o) HVT.out HIN.out (by obtain ⟨a9, c9, e9⟩ := row_slice (h.r1 rfl rfl); rw [e9]; rfl) (.tmp 29) (.tmp 36) rfl rfl rfl hK
    case q1_15 =>
     intro bsE vsE W hlb hlv hnd hbk h
     obtain ⟨b0, b1, b2, b3, b4, b5, rfl⟩ := ll6 hlb
     obtain ⟨v0, v1, v2, v3, v4, v5, rfl⟩ := ll6 hlv
     obtain rfl : b1 = true := hnd 1 (by simp)
     obtain rfl : b4 = true := hnd 4 (by simp)
     obtain rfl : b5 = false := hbk
     replace h : NbS (NrQ w R pt bks i vb l) (fun W => ∃ vb, NrI w R pt (bks.take (i + 1)) vb W) w.heap.size T #[.int .u64 (bk.1 : Int), .slice ap bk.2.length cpd] bk.1 bk.2 vb i (flatB l) b0 true b2 b3 true false (v0) (v1) (v2) (v3) (v4) W := h
     clear hnd
     have HST := Lib.hid h
     obtain ⟨Wb, ⟨p1, p2, p3⟩, p4, p5⟩ := h.m rfl rfl; obtain ⟨a9, c9, e9⟩ := row_slice p5; subst e9; obtain ⟨c, f, lB, r1⟩ := p1.put HLM.out (by rw [List.length_take, Nat.min_eq_left HIL.out]; exact p2) p3 p4 (by rw [List.length_take, Nat.min_eq_left HIL.out]; exact p5) (h.r1 rfl rfl); rw [HTK.out] at r1; have hN0 : NbS (NrQ w R pt bks i vb l) (fun W => ∃ vb, NrI w R pt (bks.take (i + 1)) vb W) w.heap.size T #[.int .u64 (bk.1 : Int), .slice ap bk.2.length cpd] bk.1 bk.2 vb i (flatB l) b0 true b2 b3 true true (v0) (v1) (v2) (v3) ((.slice a9 (i + 1) c9)) (W.setCell ⟨R, 1, none⟩ (.slice a9 (i + 1) c9)) := ⟨(fun e => by cases e), (fun _ e => by cases e), (fun _ => ⟨_, r1⟩), blk_set_other h.t HTR.out, h.r0, (fun _ e => by cases e), h.r2, (fun _ e => by cases e), h.n0, h.n1, h.n2, h.n3, (fun e => by cases e), by simpa using h.hb⟩; clear p1 p2 p3 p4 p5 r1
     intro K Q hK
     simp only [putE, updAll, Act.put, sl1, sl2, sl3, sl4] at hK ⊢
     go_wp2_with fail
     all_goals (first | exact hK _ hN0 | exact hN0)
    all_goals
     intro bsE vsE W hlb hlv hnd h
     obtain ⟨b0, b1, b2, b3, b4, b5, rfl⟩ := ll6 hlb
     obtain ⟨v0, v1, v2, v3, v4, v5, rfl⟩ := ll6 hlv
     replace h : NbS (NrQ w R pt bks i vb l) (fun W => ∃ vb, NrI w R pt (bks.take (i + 1)) vb W) w.heap.size T #[.int .u64 (bk.1 : Int), .slice ap bk.2.length cpd] bk.1 bk.2 vb i (flatB l) b0 b1 b2 b3 b4 b5 (v0) (v1) (v2) (v3) (v4) W := h
     clear hnd
     have HST := Lib.hid h
     have t0 := blk_cell (o := 0) h.t rfl; have t1 := blk_cell (o := 1) h.t rfl; have tl := blk_lt h.t
     intro K Q hK
     simp only [putE, updAll, Act.put, sl1, sl2, sl3, sl4] at hK ⊢
     go_wp2_with (fail)
     all_goals (first | exact hK _ h | exact h)
   case done =>
    intro vsE W hlv h
    obtain ⟨v0, v1, v2, v3, v4, v5, rfl⟩ := ll6 hlv
    replace h : NbS (NrQ w R pt bks i vb l) (fun W => ∃ vb, NrI w R pt (bks.take (i + 1)) vb W) w.heap.size T #[.int .u64 (bk.1 : Int), .slice ap bk.2.length cpd] bk.1 bk.2 vb i (flatB l) true true true true true true (v0) (v1) (v2) (v3) (v4) W := h
    have HST := Lib.hid h
    have HZ := Lib.hid (h.z rfl)
    clear h HST
    simp only [putE, updAll, Act.put, sl1, sl2, sl3, sl4]
    go_wp2_with fail
    exact ⟨⟨i + 1, by omega, by push_cast; rfl, HZ⟩, by simp [intOf]; omega⟩
  ·obtain rfl : i = bks.length := by omega
   obtain ⟨vb, hS⟩ := HS.out
   rw [List.take_length] at hS
   clear hc
   go_wp2_with fail
   exact bodyPost_ret (v := .tuple #[.pointer (some ⟨R, 0, none⟩), .int .i64 0]) (by simp only [results, Tryz.results24]; go_simp) rfl ⟨R, vb, rfl, hS.view, hS.bel⟩
end Go.Proofs.YtmpilgkfbibhlaaGreatDoor
