/-
 NewRegistry of package passport: the walk.
-/
import Derived.Test.YtmpilgkfbibhlaaGreatDoorG0R
import Derived.Test.YtmpilgkfbibhlaaGreatDoorG30R
import Derived.LoopN
set_option linter.unusedSimpArgs false
set_option linter.unusedVariables false
namespace Go.Proofs.YtmpilgkfbibhlaaGreatDoor
open Sx Go.RowKit Mr
structure NrI (w : World) (R pt : Nat) (bks : List Bk) (vb : Value) (W : World) : Prop where
 bel : Below w.heap.size w W
 hR : w.heap.size ≤ R
 reg : W.heap[R]? = some (.cells (regC ⟨pt, bks, List.replicate 8 0, []⟩ vb nilV).toArray 121 (0, 0))
 bk : BkO w.heap.size bks vb W
def newA (pt : Nat) (bks : List Bk) : RegA := ⟨pt, bks, List.replicate 8 0, []⟩
def newS (pt : Nat) (bks : List Bk) : RegS := ⟨pt, bks, List.replicate 8 0, []⟩
structure NbS (P0 P2 : World → Prop) (Bs T : Nat) (cT : Array Value) (ptb : Nat) (ns : List Nat) (vb : Value) (n : Nat) (xs : List Value) (b0 b1 b2 b3 b4 b5 : Bool) (v0 v1 v2 v3 v4 : Value) (W : World) : Prop where
 a : b4 = false → P0 W
 m : b4 = true → b5 = false → ∃ Wb, P0 Wb ∧ Wb.grownBy W vb.ownBlock ∧ W.ownsRow Bs 85 2 v4 (n + 1) (xs ++ [.int .u64 (ptb : Int), v1])
 z : b5 = true → P2 W
 t : W.heap[T]? = some (.cells cT 85 (0, 0))
 r0 : b0 = true → v0 = vb
 r1 : b1 = true → b5 = false → W.ownsRow Bs 22 1 v1 ns.length (padC ns)
 r2 : b2 = true → v2 = .agg #[.int .u64 (ptb : Int), v1]
 r3 : b3 = true → b4 = false → ∃ g, v3 = .slice (some ⟨g, 0, none⟩) 1 1 ∧ W.heap[g]? = some (.cells #[.int .u64 (ptb : Int), v1] 85 (0, 0))
 n0 : b0 = false → b4 = false
 n1 : b1 = false → b2 = false
 n2 : b2 = false → b3 = false
 n3 : b3 = false → b4 = false
 n4 : b4 = false → b5 = false
 hb : Bs ≤ W.heap.size
structure NrQ (w : World) (R pt : Nat) (bks : List Bk) (i : Nat) (vb : Value) (l : List (Bk × Value)) (W : World) : Prop where
 n : NrI w R pt (bks.take i) vb W
 o : W.ownsRow w.heap.size 85 2 vb i (flatB l)
 p : ∀ x ∈ l, W.ownsRow w.heap.size 22 1 x.2 x.1.2.length (padC x.1.2)
theorem infoBk : (Tryz.prog.info? 85).map (fun i => (i.zero, i.size, i.bytes)) = some (some (.agg #[.int .u64 0, .slice none 0 0]), 2, 32) := by kernel_rfl
section
variable {P0 P2 : World → Prop} {Bs T ptb n : Nat} {cT : Array Value} {ns : List Nat} {xs : List Value} {vb : Value} {b0 b1 b2 b3 b4 b5 : Bool} {v0 v1 v2 v3 v4 v9 : Value} {W w2 : World}
theorem NbS.step (hP : ∀ W w2, P0 W → Below W.heap.size W w2 → P0 w2) (h : NbS P0 P2 Bs T cT ptb ns vb n xs b0 b1 b2 b3 false false v0 v1 v2 v3 v4 W) (hb : Below W.heap.size W w2) : NbS P0 P2 Bs T cT ptb ns vb n xs b0 b1 b2 b3 false false v0 v1 v2 v3 v4 w2 :=
 ⟨fun e => hP _ _ (h.a e) hb, (fun e => by cases e), (fun e => by cases e), blk_step h.t hb, h.r0, fun e1 e2 => own_step (h.r1 e1 e2) hb, h.r2, fun e1 e2 => by obtain ⟨g, q1, q2⟩ := h.r3 e1 e2; exact ⟨g, q1, blk_step q2 hb⟩, h.n0, h.n1, h.n2, h.n3, h.n4, Nat.le_trans h.hb hb.size⟩
theorem NbS.mk0 (h : NbS P0 P2 Bs T cT ptb ns vb n xs false b1 b2 b3 false false v0 v1 v2 v3 v4 W) : NbS P0 P2 Bs T cT ptb ns vb n xs true b1 b2 b3 false false vb v1 v2 v3 v4 W :=
 ⟨h.a, h.m, h.z, h.t, (fun _ => rfl), h.r1, h.r2, h.r3, (fun e => by cases e), h.n1, h.n2, h.n3, h.n4, h.hb⟩
theorem NbS.mk1 (hP : ∀ W w2, P0 W → Below W.heap.size W w2 → P0 w2) (h : NbS P0 P2 Bs T cT ptb ns vb n xs b0 false false false false false v0 v1 v2 v3 v4 W) (hb : Below W.heap.size W w2) (ho : w2.ownsRow W.heap.size 22 1 v9 ns.length (padC ns)) :
  NbS P0 P2 Bs T cT ptb ns vb n xs b0 true false false false false v0 v9 v2 v3 v4 w2 := by
 have h2 := h.step hP hb
 exact ⟨h2.a, (fun e => by cases e), h2.z, h2.t, h2.r0, (fun _ _ => own_low ho h.hb), (fun e => by cases e), (fun e => by cases e), h2.n0, (fun e => by cases e), h2.n2, h2.n3, h2.n4, h2.hb⟩
theorem NbS.mk2 (h : NbS P0 P2 Bs T cT ptb ns vb n xs b0 true false false false false v0 v1 v2 v3 v4 W) : NbS P0 P2 Bs T cT ptb ns vb n xs b0 true true false false false v0 v1 (.agg #[.int .u64 (ptb : Int), v1]) v3 v4 W :=
 ⟨h.a, h.m, h.z, h.t, h.r0, h.r1, (fun _ => rfl), h.r3, h.n0, (fun e => by cases e), (fun e => by cases e), h.n3, h.n4, h.hb⟩
theorem NbS.mk3 (hP : ∀ W w2, P0 W → Below W.heap.size W w2 → P0 w2) (h : NbS P0 P2 Bs T cT ptb ns vb n xs b0 b1 true false false false v0 v1 v2 v3 v4 W) : NbS P0 P2 Bs T cT ptb ns vb n xs b0 b1 true true false false v0 v1 v2 (.slice (some ⟨W.heap.size, 0, none⟩) 1 1) v4 (W.alloc (.cells #[.int .u64 (ptb : Int), v1] 85)) := by
 have h := h.step hP (bAl (W := W) (o := .cells #[.int .u64 (ptb : Int), v1] 85))
 exact ⟨h.a, h.m, h.z, h.t, h.r0, h.r1, h.r2, (fun _ _ => ⟨_, rfl, blk_new W _⟩), h.n0, h.n1, (fun e => by cases e), (fun e => by cases e), h.n4, h.hb⟩
theorem NbS.app {o : Oper} {a : Act} {K : Act → World → Prop} {Q : Exit → Act → World → Prop} (hown : ∀ W, P0 W → W.ownsRow Bs 85 2 vb n xs) (hT : ∀ k, vb.ownBlock = some k → k ≠ T) (hn : n ≤ 100000) (hone : v1.oneCell' = true) (h : NbS P0 P2 Bs T cT ptb ns vb n xs true b1 b2 true false false v0 v1 v2 v3 v4 W)
  (s p : Operand) (ho : o.op = .call { callee := .builtin .append, args := #[s, p], argTypes := #[23, 23] }) (hs : a.eval s = v0) (hp : a.eval p = v3)
  (hK : ∀ v' W', NbS P0 P2 Bs T cT ptb ns vb n xs true b1 b2 true true false v0 v1 v2 v3 v' W' → K (a.put o.dst v') W') : o.wp Tryz.prog a W K Q := by
 obtain ⟨i0, hi, hz0, hz1, hz2⟩ := info_parts infoBk
 obtain rfl := h.r0 rfl
 obtain ⟨g, rfl, hg⟩ := h.r3 rfl rfl
 have hv := hown W (h.a rfl)
 refine wp_app (P := Tryz.prog) W s p 23 ho Bs 85 i0 _ 2 32 Tryz.underlying23 hi hz0 hz1 hz2 rfl (by decide) v0 n xs hs hv (some ⟨g, 0, none⟩) 1 1 [.int .u64 (ptb : Int), v1] hp rfl (fun _ => ⟨g, 0, rfl, fun j u hu => blk_cell hg (by rw [Nat.zero_add]; simpa using hu)⟩) (fun u hu => ?_) (by unfold maxLen; omega) (by omega) h.hb fun v' W' q1 q2 q3 => hK v' W' ?_
 ·simp only [List.mem_cons, List.not_mem_nil, or_false] at hu
  rcases hu with rfl | rfl
  ·rfl
  ·exact hone
 ·exact ⟨(fun e => by cases e), (fun _ _ => ⟨W, h.a rfl, q2, q1⟩), (fun e => by cases e), (q2.block T (blk_lt h.t) (fun c => hT T c.symm rfl)).trans h.t, (fun _ => rfl), (fun e1 e2 => own_kept (h.r1 e1 e2) q2 hv (by decide)), h.r2, (fun _ e => by cases e), (fun e => by cases e), h.n1, h.n2, (fun e => by cases e), (fun e => by cases e), Nat.le_trans h.hb q2.size⟩
end
theorem NrI.put {w Wb W : World} {R pt : Nat} {bks : List Bk} {vb v4 v1 : Value} {bk : Bk} {l : List (Bk × Value)} (h : NrI w R pt bks vb Wb) (hl : l.map (·.1) = bks) (hvb : Wb.ownsRow w.heap.size 85 2 vb bks.length (flatB l)) (hps : ∀ x ∈ l, Wb.ownsRow w.heap.size 22 1 x.2 x.1.2.length (padC x.1.2))
  (hg : Wb.grownBy W vb.ownBlock) (ho : W.ownsRow w.heap.size 85 2 v4 (bks.length + 1) (flatB l ++ [.int .u64 (bk.1 : Int), v1])) (h1 : W.ownsRow w.heap.size 22 1 v1 bk.2.length (padC bk.2)) :
  W.cell? ⟨R, 1, none⟩ = some vb ∧ W.frozen? ⟨R, 1, none⟩ = false ∧ R < W.heap.size ∧ NrI w R pt (bks ++ [bk]) v4 (W.setCell ⟨R, 1, none⟩ v4) := by
 have hR := blk_kept h.reg hg hvb (by decide)
 refine ⟨blk_cell hR rfl, blk_free hR, blk_lt hR, ?_, h.hR, ?_, ⟨l ++ [(bk, v1)], ?_, ?_, fun x hx => ?_⟩⟩
 ·exact (h.bel.grown hg (Nat.le_trans h.bel.size (Nat.le_refl _)) fun k hk => (World.ownsRow.lt hvb k hk).1).setCell h.hR _
 ·exact blk_set hR
 ·rw [List.map_append, hl]; rfl
 ·rw [List.length_append, flatB_snoc]
  exact own_setT ho hR (by decide)
 ·rcases List.mem_append.1 hx with hx | hx
  ·exact own_setT (own_kept (hps x hx) hg hvb (by decide)) hR (by decide)
  ·obtain rfl := List.mem_singleton.1 hx
   exact own_setT h1 hR (by decide)
theorem NrI.step {w W w2 : World} {R pt : Nat} {bks : List Bk} {vb : Value} (h : NrI w R pt bks vb W) (hb : Below W.heap.size W w2) : NrI w R pt bks vb w2 := ⟨bStep h.bel hb, h.hR, blk_step h.reg hb, h.bk.step hb⟩
theorem PadV.step9 {v : Value} {ns : List Nat} {W w2 : World} (h : PadV v ns W) (hb : Below W.heap.size W w2) : PadV v ns w2 := by
 obtain ⟨a, c, h1, h2⟩ := h
 refine ⟨a, c, h1, fun hn => ?_⟩
 obtain ⟨b, off, e1, e2, e3⟩ := h2 hn
 exact ⟨b, off, e1, Nat.lt_of_lt_of_le e2 hb.size, fun k n hk => cell_step (e3 k n hk) hb⟩
theorem NrI.view {w W : World} {R pt : Nat} {bks : List Bk} {vb : Value} (h : NrI w R pt bks vb W) : RegV w.heap.size R vb (newA pt bks) (newS pt bks) nilV W := by
 refine ⟨⟨h.reg, rfl, h.bk.bk, ⟨rfl, Or.inl ⟨rfl, rfl⟩⟩, (fun q hq => by cases hq), (fun q hq => by cases hq), (fun i j p q _ hp => by cases hp), h.hR⟩, rfl, (fun q hq => by cases hq)⟩
set_option maxHeartbeats 8000000 in
set_option maxRecDepth 20000 in
theorem New_ok {ab : Option Addr} {bks : List Bk} {w : World} (pt cb : Nat) (hB : BksAt ab bks w) (hl : bks.length ≤ 1000000 ∧ ∀ bk ∈ bks, bk.2.length ≤ 1000000) (h : secR pt bks = 0) : Calls Tryz.prog 24 #[.int .u64 (pt : Int), .slice ab bks.length cb] w fun en w' => ∃ R vb, en = .returned (.tuple #[.pointer (some ⟨R, 0, none⟩), .int .i64 0]) ∧ RegV w.heap.size R vb (newA pt bks) (newS pt bks) nilV w' ∧ Below w.heap.size w w' := by
 have CS := Lib.hid (Secrets_any pt cb hB hl)
 rw [h] at CS
 have H := Lib.hid hB
 have HL := Lib.hid hl.2
 have hl1 := hl.1
 have HL9 := Lib.hid (show bks.length ≤ 8 from (secR_ok h).2.1.2)
 clear hB hl h
 go_enter Tryz.func24, Tryz.ntmps24
 go_upto_region 5 with (go_at_call 38; refine CS.out.mono ?_; rintro e w1 ⟨rfl, hb1⟩)
 have HI0 : Hid (NrI w w1.heap.size pt [] (.slice none 0 0) (w1.alloc (.cells #[.int .u64 (pt : Int), .slice none 0 0, .int .i64 0, .int .i64 0, .int .i64 0, .int .i64 0, .int .i64 0, .int .i64 0, .int .i64 0, .int .i64 0, .slice none 0 0] 121))) := ⟨bStep hb1 bAl, hb1.size, blk_new w1 _, BkO.nil _ _⟩
 clear hb1
 generalize w1.alloc _ = w2 at *
 generalize w1.heap.size = R at *
 go_wp2_with fail
 go_loopw [21] (fun ix wr => ∃ i : Nat, i ≤ bks.length ∧ ix = .int .i64 i ∧ Hid (∃ vb, NrI w R pt (bks.take i) vb wr)) (fun ix _ => bks.length - (intOf ix).toNat)
 case atStart => exact ⟨0, by omega, rfl, _, HI0.out⟩
 case round =>
  obtain ⟨i, hi, rfl, HS⟩ := hrel
  by_cases hc : i < bks.length
  ·have c1 : (i : Int) < bks.length := by omega
   have c0 : (0 : Int) ≤ i := by omega
   obtain ⟨vb, hS⟩ := HS.out
   obtain ⟨bk, hk⟩ : ∃ bk, bks[i]? = some bk := ⟨bks[i], List.getElem?_eq_getElem hc⟩
   obtain ⟨bb, ob, rfl, hbb, hbc⟩ := H.out (by rintro e; rw [e] at hc; simp at hc)
   obtain ⟨s0, vpd, s1, hpv⟩ := hbc i bk hk
   have hpl := HL.out bk (List.mem_of_getElem? hk)
   have CC := Lib.hid (fun W (hW : Below w.heap.size w W) => clonePad_any (PadV.step9 hpv hW) hpl)
   obtain ⟨ap, cpd, rfl, -⟩ := hpv
   have g0 := cell_step s0 hS.bel
   have g1 := cell_step s1 hS.bel
   have lb := Nat.lt_of_lt_of_le hbb hS.bel.size
   have HIL := Lib.hid hi
   have HIN := Lib.hid (show i ≤ 100000 by have := HL9.out; omega)
   have HTK : Hid (bks.take i ++ [bk] = bks.take (i + 1)) := by unfold Hid; rw [List.take_add_one, hk]; rfl
   have HSS := Lib.hid hS
   clear hbc s0 s1 hk hc hpl hS HS hbb
   go_upto_region 8 with fail
   have HT := Lib.hid (blk_new wr (.cells #[.int .u64 (bk.1 : Int), .slice ap bk.2.length cpd] 85))
   obtain ⟨l, l1, l2, l3⟩ := HSS.out.bk.o
   have HLM := Lib.hid l1
   have HVT : Hid (∀ k, vb.ownBlock = some k → k ≠ wr.heap.size) := fun k hk e => by have := (World.ownsRow.lt l2 k hk).2; omega
   have HTR : Hid (wr.heap.size ≠ R) := fun e => by have := blk_lt HSS.out.reg; omega
   rw [List.length_take, Nat.min_eq_left HIL.out] at l2
   have HP0 : Hid ((NrQ w R pt bks i vb l) (wr.alloc (.cells #[.int .u64 (bk.1 : Int), .slice ap bk.2.length cpd] 85))) := ⟨HSS.out.step bAl, own_step l2 bAl, fun x hx => own_step (l3 x hx) bAl⟩
   have HPS : Hid (∀ W w2, (NrQ w R pt bks i vb l) W → Below W.heap.size W w2 → (NrQ w R pt bks i vb l) w2) := fun W w2 hW hb => ⟨hW.n.step hb, own_step hW.o hb, fun x hx => own_step (hW.p x hx) hb⟩
   clear l1 l2 l3 g0 g1 lb HSS
   generalize wr.alloc (.cells #[.int .u64 (bk.1 : Int), .slice ap bk.2.length cpd] 85) = W9 at *
   generalize wr.heap.size = T at *
   refine region_all 16 16 42 [(4, 29), (9, 34), (10, 35), (11, 36), (12, 37), (15, 47)] [(none, []), (none, []), (none, []), (none, []), (some 0, []), (none, []), (none, []), (none, []), (none, []), (some 1, []), (some 2, [1]), (some 3, [2]), (some 4, [0, 1, 3]), (none, []), (none, []), (some 5, [1, 4])] [(25, (.pointer (some ⟨R, 0, none⟩))), (26, (.pointer (some ⟨R, 0, none⟩))), (27, (.pointer (some ⟨R, 0, none⟩))), (28, (.pointer (some ⟨R, 1, none⟩))), (30, (.pointer (some ⟨T, 0, none⟩))), (31, (.int .u64 (bk.1 : Int))), (32, (.pointer (some ⟨T, 1, none⟩))), (33, (.slice ap bk.2.length cpd)), (38, (.pointer (some ⟨R, 0, none⟩))), (39, (.pointer (some ⟨R, 1, none⟩)))] (fun bsE vsE W => NbS (NrQ w R pt bks i vb l) (fun W => ∃ vb, NrI w R pt (bks.take (i + 1)) vb W) w.heap.size T #[.int .u64 (bk.1 : Int), .slice ap bk.2.length cpd] bk.1 bk.2 vb i (flatB l) (bsE.getD 0 false) (bsE.getD 1 false) (bsE.getD 2 false) (bsE.getD 3 false) (bsE.getD 4 false) (bsE.getD 5 false) ((vsE.getD 0 undef)) ((vsE.getD 1 undef)) ((vsE.getD 2 undef)) ((vsE.getD 3 undef)) ((vsE.getD 4 undef)) W) (by kernel_rfl) (by kernel_rfl) rfl rfl (by kernel_rfl) (by rfl) ?h0 ?each ?done
   case h0 =>
    intro vsE hlv
    obtain ⟨v0, v1, v2, v3, v4, v5, rfl⟩ := ll6 hlv
    exact ⟨(fun _ => HPS.out _ _ HP0.out (Below.refl _ _).drew), (fun e => by cases e), (fun e => by cases e), blk_step HT.out (Below.refl _ _).drew, (fun e => by cases e), (fun e => by cases e), (fun e => by cases e), (fun e => by cases e), (fun _ => rfl), (fun _ => rfl), (fun _ => rfl), (fun _ => rfl), (fun _ => rfl), (HPS.out _ _ HP0.out (Below.refl _ _).drew).n.bel.size⟩
   case each =>
    simp only [AllE]
    refine ⟨⟨25, (.pointer (some ⟨R, 0, none⟩)), rfl, by kernel_rfl, ?_⟩, ⟨26, (.pointer (some ⟨R, 0, none⟩)), rfl, by kernel_rfl, ?_⟩, ⟨27, (.pointer (some ⟨R, 0, none⟩)), rfl, by kernel_rfl, ?_⟩, ⟨28, (.pointer (some ⟨R, 1, none⟩)), rfl, by kernel_rfl, ?_⟩, Or.inl ⟨29, rfl, ?q1_4⟩, ⟨30, (.pointer (some ⟨T, 0, none⟩)), rfl, by kernel_rfl, ?_⟩, ⟨31, (.int .u64 (bk.1 : Int)), rfl, by kernel_rfl, ?_⟩, ⟨32, (.pointer (some ⟨T, 1, none⟩)), rfl, by kernel_rfl, ?_⟩, ⟨33, (.slice ap bk.2.length cpd), rfl, by kernel_rfl, ?_⟩, Or.inl ⟨34, rfl, ?q1_9⟩, Or.inl ⟨35, rfl, ?q1_10⟩, Or.inl ⟨36, rfl, ?q1_11⟩, Or.inl ⟨37, rfl, ?q1_12⟩, ⟨38, (.pointer (some ⟨R, 0, none⟩)), rfl, by kernel_rfl, ?_⟩, ⟨39, (.pointer (some ⟨R, 1, none⟩)), rfl, by kernel_rfl, ?_⟩, Or.inr ⟨rfl, ?q1_15⟩, trivial⟩
    case q1_4 =>
     intro bsE vsE W hlb hlv hnd hbk h
     obtain ⟨b0, b1, b2, b3, b4, b5, rfl⟩ := ll6 hlb
     obtain ⟨v0, v1, v2, v3, v4, v5, rfl⟩ := ll6 hlv
     obtain rfl : b0 = false := hbk
     replace h : NbS (NrQ w R pt bks i vb l) (fun W => ∃ vb, NrI w R pt (bks.take (i + 1)) vb W) w.heap.size T #[.int .u64 (bk.1 : Int), .slice ap bk.2.length cpd] bk.1 bk.2 vb i (flatB l) false b1 b2 b3 b4 b5 (v0) (v1) (v2) (v3) (v4) W := h
     clear hnd
     have HST := Lib.hid h
     obtain rfl := h.n0 rfl; obtain rfl := h.n4 rfl; have c1 : W.cell? ⟨R, 1, none⟩ = some vb := blk_cell (o := 1) (h.a rfl).n.reg rfl; have cR := blk_lt (h.a rfl).n.reg
     intro K Q hK
     simp only [putE, updAll, Act.put, sl1, sl2, sl3, sl4] at hK ⊢
     go_wp2_with fail
     all_goals (have hm := h.mk0)
     all_goals (first | exact hK _ _ hm | exact hm)
    case q1_9 =>
     intro bsE vsE W hlb hlv hnd hbk h
     obtain ⟨b0, b1, b2, b3, b4, b5, rfl⟩ := ll6 hlb
     obtain ⟨v0, v1, v2, v3, v4, v5, rfl⟩ := ll6 hlv
     obtain rfl : b1 = false := hbk
     replace h : NbS (NrQ w R pt bks i vb l) (fun W => ∃ vb, NrI w R pt (bks.take (i + 1)) vb W) w.heap.size T #[.int .u64 (bk.1 : Int), .slice ap bk.2.length cpd] bk.1 bk.2 vb i (flatB l) b0 false b2 b3 b4 b5 (v0) (v1) (v2) (v3) (v4) W := h
     clear hnd
     have HST := Lib.hid h
     obtain rfl := h.n1 rfl; obtain rfl := h.n2 rfl; obtain rfl := h.n3 rfl; obtain rfl := h.n4 rfl
     intro K Q hK
     simp only [putE, updAll, Act.put, sl1, sl2, sl3, sl4] at hK ⊢
     go_wp2_with (go_at_call 69; refine (CC.out _ (h.a rfl).n.bel).mono ?_; rintro en w9 ⟨v9, rfl, ho9, hb9⟩)
     all_goals (have hm := h.mk1 HPS.out hb9 ho9)
     all_goals (first | exact hK _ _ hm | exact hm)
    case q1_10 =>
     intro bsE vsE W hlb hlv hnd hbk h
     obtain ⟨b0, b1, b2, b3, b4, b5, rfl⟩ := ll6 hlb
     obtain ⟨v0, v1, v2, v3, v4, v5, rfl⟩ := ll6 hlv
     obtain rfl : b1 = true := hnd 1 (by simp)
     obtain rfl : b2 = false := hbk
     replace h : NbS (NrQ w R pt bks i vb l) (fun W => ∃ vb, NrI w R pt (bks.take (i + 1)) vb W) w.heap.size T #[.int .u64 (bk.1 : Int), .slice ap bk.2.length cpd] bk.1 bk.2 vb i (flatB l) b0 true false b3 b4 b5 (v0) (v1) (v2) (v3) (v4) W := h
     clear hnd
     have HST := Lib.hid h
     obtain rfl := h.n2 rfl; obtain rfl := h.n3 rfl; obtain rfl := h.n4 rfl; obtain ⟨a9, c9, e9⟩ := row_slice (h.r1 rfl rfl); subst e9; have hm := h.mk2
     intro K Q hK
     simp only [putE, updAll, Act.put, sl1, sl2, sl3, sl4] at hK ⊢
     go_wp2_with fail
     all_goals (first | exact hK _ _ hm | exact hm)
    case q1_11 =>
     intro bsE vsE W hlb hlv hnd hbk h
     obtain ⟨b0, b1, b2, b3, b4, b5, rfl⟩ := ll6 hlb
     obtain ⟨v0, v1, v2, v3, v4, v5, rfl⟩ := ll6 hlv
     obtain rfl : b2 = true := hnd 2 (by simp)
     obtain rfl : b3 = false := hbk
     replace h : NbS (NrQ w R pt bks i vb l) (fun W => ∃ vb, NrI w R pt (bks.take (i + 1)) vb W) w.heap.size T #[.int .u64 (bk.1 : Int), .slice ap bk.2.length cpd] bk.1 bk.2 vb i (flatB l) b0 b1 true false b4 b5 (v0) (v1) (v2) (v3) (v4) W := h
     clear hnd
     have HST := Lib.hid h
     obtain rfl := h.n3 rfl; obtain rfl := h.n4 rfl; obtain rfl := h.r2 rfl; have hm := h.mk3 HPS.out
     intro K Q hK
     simp only [putE, updAll, Act.put, sl1, sl2, sl3, sl4] at hK ⊢
     go_wp2_with fail
     all_goals (first | exact hK _ _ hm | exact hm)
    case q1_12 =>
     intro bsE vsE W hlb hlv hnd hbk h
     obtain ⟨b0, b1, b2, b3, b4, b5, rfl⟩ := ll6 hlb
     obtain ⟨v0, v1, v2, v3, v4, v5, rfl⟩ := ll6 hlv
     obtain rfl : b0 = true := hnd 0 (by simp)
     obtain rfl : b1 = true := hnd 1 (by simp)
     obtain rfl : b3 = true := hnd 3 (by simp)
     obtain rfl : b4 = false := hbk
     replace h : NbS (NrQ w R pt bks i vb l) (fun W => ∃ vb, NrI w R pt (bks.take (i + 1)) vb W) w.heap.size T #[.int .u64 (bk.1 : Int), .slice ap bk.2.length cpd] bk.1 bk.2 vb i (flatB l) true true b2 true false b5 (v0) (v1) (v2) (v3) (v4) W := h
     clear hnd
     have HST := Lib.hid h
     obtain rfl := h.n4 rfl
     intro K Q hK
     simp only [putE, updAll, Act.put, sl1, sl2, sl3, sl4] at hK ⊢
     exact h.app (fun W hW => hW.o) HVT.out HIN.out (by obtain ⟨a9, c9, e9⟩ := row_slice (h.r1 rfl rfl); rw [e9]; rfl) (.tmp 29) (.tmp 36) rfl rfl rfl hK
    case q1_15 =>
     intro bsE vsE W hlb hlv hnd hbk h
     obtain ⟨b0, b1, b2, b3, b4, b5, rfl⟩ := ll6 hlb
     obtain ⟨v0, v1, v2, v3, v4, v5, rfl⟩ := ll6 hlv
     obtain rfl : b1 = true := hnd 1 (by simp)
     obtain rfl : b4 = true := hnd 4 (by simp)
     obtain rfl : b5 = false := hbk
     replace h : NbS (NrQ w R pt bks i vb l) (fun W => ∃ vb, NrI w R pt (bks.take (i + 1)) vb W) w.heap.size T #[.int .u64 (bk.1 : Int), .slice ap bk.2.length cpd] bk.1 bk.2 vb i (flatB l) b0 true b2 b3 true false (v0) (v1) (v2) (v3) (v4) W := h
     clear hnd
     have HST := Lib.hid h
     obtain ⟨Wb, ⟨p1, p2, p3⟩, p4, p5⟩ := h.m rfl rfl; obtain ⟨a9, c9, e9⟩ := row_slice p5; subst e9; obtain ⟨c, f, lB, r1⟩ := p1.put HLM.out (by rw [List.length_take, Nat.min_eq_left HIL.out]; exact p2) p3 p4 (by rw [List.length_take, Nat.min_eq_left HIL.out]; exact p5) (h.r1 rfl rfl); rw [HTK.out] at r1; have hN0 : NbS (NrQ w R pt bks i vb l) (fun W => ∃ vb, NrI w R pt (bks.take (i + 1)) vb W) w.heap.size T #[.int .u64 (bk.1 : Int), .slice ap bk.2.length cpd] bk.1 bk.2 vb i (flatB l) b0 true b2 b3 true true (v0) (v1) (v2) (v3) ((.slice a9 (i + 1) c9)) (W.setCell ⟨R, 1, none⟩ (.slice a9 (i + 1) c9)) := ⟨(fun e => by cases e), (fun _ e => by cases e), (fun _ => ⟨_, r1⟩), blk_set_other h.t HTR.out, h.r0, (fun _ e => by cases e), h.r2, (fun _ e => by cases e), h.n0, h.n1, h.n2, h.n3, (fun e => by cases e), by simpa using h.hb⟩; clear p1 p2 p3 p4 p5 r1
     intro K Q hK
     simp only [putE, updAll, Act.put, sl1, sl2, sl3, sl4] at hK ⊢
     go_wp2_with fail
     all_goals (first | exact hK _ hN0 | exact hN0)
    all_goals
     intro bsE vsE W hlb hlv hnd h
     obtain ⟨b0, b1, b2, b3, b4, b5, rfl⟩ := ll6 hlb
     obtain ⟨v0, v1, v2, v3, v4, v5, rfl⟩ := ll6 hlv
     replace h : NbS (NrQ w R pt bks i vb l) (fun W => ∃ vb, NrI w R pt (bks.take (i + 1)) vb W) w.heap.size T #[.int .u64 (bk.1 : Int), .slice ap bk.2.length cpd] bk.1 bk.2 vb i (flatB l) b0 b1 b2 b3 b4 b5 (v0) (v1) (v2) (v3) (v4) W := h
     clear hnd
     have HST := Lib.hid h
     have t0 := blk_cell (o := 0) h.t rfl; have t1 := blk_cell (o := 1) h.t rfl; have tl := blk_lt h.t
     intro K Q hK
     simp only [putE, updAll, Act.put, sl1, sl2, sl3, sl4] at hK ⊢
     go_wp2_with (fail)
     all_goals (first | exact hK _ h | exact h)
   case done =>
    intro vsE W hlv h
    obtain ⟨v0, v1, v2, v3, v4, v5, rfl⟩ := ll6 hlv
    replace h : NbS (NrQ w R pt bks i vb l) (fun W => ∃ vb, NrI w R pt (bks.take (i + 1)) vb W) w.heap.size T #[.int .u64 (bk.1 : Int), .slice ap bk.2.length cpd] bk.1 bk.2 vb i (flatB l) true true true true true true (v0) (v1) (v2) (v3) (v4) W := h
    have HST := Lib.hid h
    have HZ := Lib.hid (h.z rfl)
    clear h HST
    simp only [putE, updAll, Act.put, sl1, sl2, sl3, sl4]
    go_wp2_with fail
    exact ⟨⟨i + 1, by omega, by push_cast; rfl, HZ⟩, by simp [intOf]; omega⟩
  ·obtain rfl : i = bks.length := by omega
   obtain ⟨vb, hS⟩ := HS.out
   rw [List.take_length] at hS
   clear hc
   go_wp2_with fail
   exact bodyPost_ret (v := .tuple #[.pointer (some ⟨R, 0, none⟩), .int .i64 0]) (by simp only [results, Tryz.results24]; go_simp) rfl ⟨R, vb, rfl, hS.view, hS.bel⟩
end Go.Proofs.YtmpilgkfbibhlaaGreatDoor
namespace Go.Proofs.YtmpilgkfbibhlaaGreatDoor
open Sx Go.RowKit Mr
theorem evSize6 : (Tryz.prog.info? 29).map (·.size) = some 6 := by kernel_rfl
structure FlS (w0 : World) (X : Nat) (nm : ByteArray) (h : List Evt) (W : World) : Prop where
 bel : Below w0.heap.size w0 W
 hX : w0.heap.size ≤ X
 life : ∃ vm vo, LifeAt 93 X 0 nm (lifeOf nm h) vm vo W ∧ (h = [] → vm = .slice none 0 0)
theorem FlS.step {w0 : World} {X : Nat} {nm : ByteArray} {h : List Evt} {W w2 : World} (hh : FlS w0 X nm h W) (hb : Below W.heap.size W w2) : FlS w0 X nm h w2 := by
 obtain ⟨vm, vo, h1, h2⟩ := hh.life
 exact ⟨bStep hh.bel hb, hh.hX, vm, vo, h1.step hb, h2⟩
structure LegA (nm : ByteArray) (h : List Evt) : Prop where
 nb : nameB nm = true
 len : h.length ≤ 500
 leg : LegH nm h
 ok : ∀ e ∈ h, okX e = true
theorem LegA.at_ {nm : ByteArray} {h : List Evt} (hl : LegA nm h) {i : Nat} {e : Evt} (he : h[i]? = some e) : okX e = true ∧ canP nm (lifeOf nm (h.take i)) e = true ∧ LifeB (lifeOf nm (h.take i)) ∧ (lifeOf nm (h.take i)).ms.length ≤ 100000 ∧ (lifeOf nm (h.take i)).os.length ≤ 100000 ∧ lifeOf nm (h.take (i + 1)) = (lifeOf nm (h.take i)).add nm e := by
 have hi := (List.getElem?_eq_some_iff.1 he).1
 have hsp : h = h.take i ++ e :: h.drop (i + 1) := by
  conv => lhs; rw [← List.take_append_drop i h]
  rw [List.drop_eq_getElem_cons hi, (List.getElem?_eq_some_iff.1 he).2]
 have hlt : LegH nm (h.take i) := fun g e2 r hg => hl.leg g e2 (r ++ e :: h.drop (i + 1)) (hsp.trans (by rw [hg]; simp))
 have hn := (lifeOf_N nm (h.take i) fun e2 he2 => hl.ok e2 (List.mem_of_mem_take he2)).lifeB (by rw [life_n, List.length_take]; have := hl.len; omega)
 refine ⟨hl.ok e (List.mem_of_getElem? he), ?_, hn.1, hn.2.1, hn.2.2, ?_⟩
 ·rw [can_same hlt]
  exact hl.leg _ _ _ hsp
 ·rw [List.take_add_one, he]
  exact lifeOf_snoc _ _ _
set_option maxHeartbeats 8000000 in
set_option maxRecDepth 20000 in
theorem follow_any {ae : Option Addr} {h : List Evt} {w : World} (ce : Nat) (nm : ByteArray) (hE : EvAt ae h w) (hG : Glob0 w) (hl : LegA nm h) : Calls Tryz.prog 118 #[.string nm, .slice ae h.length ce] w fun en w' => ∃ X, en = .returned (.tuple #[.pointer (some ⟨X, 0, none⟩), .int .i64 (h.length : Int), .int .i64 0]) ∧ FlS w X nm h w' := by
 have hnm := (nameB_size hl.nb).2
 have CN := Lib.hid (isName_any nm w (by omega))
 rw [hl.nb] at CN
 have HE := Lib.hid hE
 have HG := Lib.hid hG
 have HL := Lib.hid hl
 have hlen : ¬ (500 : Int) < h.length := by have := hl.len; omega
 have hl5 := hl.len
 have HNM := Lib.hid (show nm.size ≤ 1000 by omega)
 clear hE hG hl hnm
 go_enter Tryz.func118, Tryz.ntmps118
 go_upto_region 6 with (go_at_call 39; refine CN.out.mono ?_; rintro e w1 ⟨rfl, hb1⟩)
 clear hlen
 have HF0 : Hid (FlS w w1.heap.size nm [] (w1.alloc (.cells #[.string nm, .int .i64 0, .int .i64 0, .int .i64 0, .int .i64 0, .int .i64 0, .int .i64 0, .string ⟨#[]⟩, .string ⟨#[]⟩, .slice none 0 0, .slice none 0 0, .int .i64 0, .int .i64 0, .bool false, .int .i64 0, .int .i64 0, .int .i64 0, .bool false] 93))) := ⟨bStep hb1 bAl, hb1.size, _, _, life_box w1 nm, fun _ => rfl⟩
 clear hb1 CN
 generalize w1.alloc _ = w2 at *
 generalize w1.heap.size = X at *
 go_wp2_with fail
 go_loopw [21] (fun ix wr => ∃ i : Nat, i ≤ h.length ∧ ix = .int .i64 i ∧ Hid (FlS w X nm (h.take i) wr)) (fun ix _ => h.length - (intOf ix).toNat)
 case atStart => exact ⟨0, by omega, rfl, HF0⟩
 case round =>
  obtain ⟨i, hi, rfl, HF⟩ := hrel
  by_cases hc : i < h.length
  ·have c1 : (i : Int) < h.length := by omega
   have c0 : (0 : Int) ≤ i := by omega
   obtain ⟨y, hk⟩ : ∃ y, h[i]? = some y := ⟨h[i], List.getElem?_eq_getElem hc⟩
   obtain ⟨q1, q2, q3, q4, q5, q6⟩ := HL.out.at_ hk
   obtain ⟨b, off, rfl, hb0, hcs⟩ := HE.out (by rintro rfl; simp at hc)
   have hsz := okX_size q1
   have hev := (okE_ev (show okE y.1 y.2.1 y.2.2.1 y.2.2.2.1 y.2.2.2.2.1 y.2.2.2.2.2 = true from q1)).1.k
   have CA0 := fun (W : World) (vm vo : Value) (hL : LifeAt 93 X 0 nm (lifeOf nm (h.take i)) vm vo W) => can_any hL y hev (by omega) (by omega)
   rw [q2] at CA0
   have CD0 := fun (W : World) (vm vo : Value) (hL : LifeAt 93 X 0 nm (lifeOf nm (h.take i)) vm vo W) (hn : h.take i = [] → vm = .slice none 0 0) => add_any (by decide) hL q3 ⟨q4, q5⟩ HNM.out (fun e => by
    have e2 : h.take i = [] := by rw [life_n] at e; exact List.length_eq_zero_iff.1 e
    rw [e2] at hn ⊢
    exact ⟨hn rfl, rfl⟩) y q1 q2
   have HNX := Lib.hid q6
   obtain ⟨k, t, ea, eb, n1, ot⟩ := y
   have CA : Hid (∀ (W : World) (vm vo : Value), LifeAt 93 X 0 nm (lifeOf nm (h.take i)) vm vo W → Calls Tryz.prog 43 #[.pointer (some ⟨X, 0, none⟩), .agg #[.int .i64 k, .int .i64 t, .int .i64 ea, .int .i64 eb, .string n1, .string ot]] W fun en w' => en = .returned (.bool true) ∧ Below W.heap.size W w') := CA0
   have CD : Hid (∀ (W : World) (vm vo : Value), LifeAt 93 X 0 nm (lifeOf nm (h.take i)) vm vo W → (h.take i = [] → vm = .slice none 0 0) → Calls Tryz.prog 46 #[.pointer (some ⟨X, 0, none⟩), .agg #[.int .i64 k, .int .i64 t, .int .i64 ea, .int .i64 eb, .string n1, .string ot]] W fun en w' => en = .returned (.tuple #[]) ∧ ∃ vm' vo', LifeAt 93 X 0 nm ((lifeOf nm (h.take i)).add nm (k, t, ea, eb, n1, ot)) vm' vo' w' ∧ OnlyB 93 X 0 18 W w') := CD0
   have CK := Lib.hid (fun W (hW : Below w.heap.size w W) => Check_any k t ea eb n1 ot W (gstep HG.out hW) (by have := hsz.1; dsimp only at this; omega) (by have := hsz.2; dsimp only at this; omega))
   rw [show okE k t ea eb n1 ot = true from q1] at CK
   simp only [cond_true] at CK
   have HYC : Hid (∀ j u, [.int .i64 k, .int .i64 t, .int .i64 ea, .int .i64 eb, .string n1, .string ot][j]? = some u → wr.cell? ⟨b, off + i * 6 + j, none⟩ = some u) := fun j u hj => cell_step (hcs i (k, t, ea, eb, n1, ot) hk j u hj) HF.out.bel
   have hlb : b < wr.heap.size := Nat.lt_of_lt_of_le hb0 HF.out.bel.size
   clear hcs hk q1 q2 q3 q4 q5 q6 hev hsz CA0 CD0 hb0 hc
   go_upto_region 9 with (refine wpList_load_mid rfl 29 (.tmp 24) rfl b (off + i * 6) rfl [.int .i64 k, .int .i64 t, .int .i64 ea, .int .i64 eb, .string n1, .string ot] _ HYC.out Tryz.underlying29 rfl evSize6 ?_)
   have HP := Lib.hid (blk_new wr (.cells #[.int .i64 k, .int .i64 t, .int .i64 ea, .int .i64 eb, .string n1, .string ot] 29))
   have HF9 := Lib.hid (HF.out.step (bAl (W := wr) (o := (.cells #[.int .i64 k, .int .i64 t, .int .i64 ea, .int .i64 eb, .string n1, .string ot] 29))))
   clear HF HYC hlb
   have HF := HF9
   clear HF9
   generalize wr.alloc (.cells #[.int .i64 k, .int .i64 t, .int .i64 ea, .int .i64 eb, .string n1, .string ot] 29) = w3 at *
   generalize wr.heap.size = P at *
   have u0 := blk_cell (o := 0) HP.out rfl; have u1 := blk_cell (o := 1) HP.out rfl; have u2 := blk_cell (o := 2) HP.out rfl; have u3 := blk_cell (o := 3) HP.out rfl; have u4 := blk_cell (o := 4) HP.out rfl; have u5 := blk_cell (o := 5) HP.out rfl; have ul := blk_lt HP.out
   go_wp2_with (first | (go_at_call 42; refine (CK.out _ HF.out.bel).mono ?_; rintro e w9 ⟨rfl, hbn⟩; have HP9 := Lib.hid (blk_step HP.out hbn); have HF9 := Lib.hid (HF.out.step hbn); clear HP HF hbn u0 u1 u2 u3 u4 u5 ul; have HP := HP9; have HF := HF9; clear HP9 HF9; have u0 := blk_cell (o := 0) HP.out rfl; have u1 := blk_cell (o := 1) HP.out rfl; have u2 := blk_cell (o := 2) HP.out rfl; have u3 := blk_cell (o := 3) HP.out rfl; have u4 := blk_cell (o := 4) HP.out rfl; have u5 := blk_cell (o := 5) HP.out rfl; have ul := blk_lt HP.out; obtain ⟨vm9, vo9, hl9, hn9⟩ := HF.out.life; have CC := Lib.hid (CA.out _ _ _ hl9); clear hl9 hn9) | (go_at_call 43; refine CC.out.mono ?_; rintro e w9 ⟨rfl, hbn⟩; have HP9 := Lib.hid (blk_step HP.out hbn); have HF9 := Lib.hid (HF.out.step hbn); clear HP HF hbn u0 u1 u2 u3 u4 u5 ul; have HP := HP9; have HF := HF9; clear HP9 HF9; have u0 := blk_cell (o := 0) HP.out rfl; have u1 := blk_cell (o := 1) HP.out rfl; have u2 := blk_cell (o := 2) HP.out rfl; have u3 := blk_cell (o := 3) HP.out rfl; have u4 := blk_cell (o := 4) HP.out rfl; have u5 := blk_cell (o := 5) HP.out rfl; have ul := blk_lt HP.out; obtain ⟨vm8, vo8, hl8, hn8⟩ := HF.out.life; have CB := Lib.hid (CD.out _ _ _ hl8 hn8); clear hl8 hn8 CC) | (go_at_call 46; refine CB.out.mono ?_; rintro e w10 ⟨rfl, vm6, vo6, hl6, ho6⟩; have HL6 := Lib.hid hl6; have HO6 := Lib.hid ho6; clear hl6 ho6))
   have HFN : Hid (FlS w X nm (h.take (i + 1)) w10) := ⟨OnlyB.below HF.out.bel HO6.out HF.out.hX HF.out.bel.size, HF.out.hX, vm6, vo6, by rw [HNX.out]; exact HL6.out, fun e => by
    have h9 := congrArg List.length e
    rw [List.length_take, List.length_nil] at h9
    omega⟩
   exact ⟨⟨i + 1, by omega, by push_cast; rfl, HFN⟩, by simp [intOf]; omega⟩
  ·obtain rfl : i = h.length := by omega
   rw [List.take_length] at HF
   clear hc
   go_wp2_with fail
   exact bodyPost_ret (v := .tuple #[.pointer (some ⟨X, 0, none⟩), .int .i64 (h.length : Int), .int .i64 0]) (by simp only [results, Tryz.results118]; go_simp) rfl ⟨X, rfl, HF.out⟩
set_option maxHeartbeats 4000000 in
set_option maxRecDepth 20000 in
theorem whole_any {ae : Option Addr} {h : List Evt} {w : World} (ce : Nat) (nm : ByteArray) (hE : EvAt ae h w) (hG : Glob0 w) (hl : LegA nm h) : Calls Tryz.prog 66 #[.string nm, .slice ae h.length ce] w fun en w' => ∃ X, en = .returned (.tuple #[.pointer (some ⟨X, 0, none⟩), .int .i64 0]) ∧ FlS w X nm h w' := by
 have CF := Lib.hid (follow_any ce nm hE hG hl)
 clear hE hG hl
 generalize hn : h.length = n at *
 clear hn
 go_enter Tryz.func66, Tryz.ntmps66
 go_wp2_with (go_at_call 118; refine CF.out.mono ?_; rintro e w1 ⟨X, rfl, hf⟩; have HF := Lib.hid hf; clear hf)
 exact bodyPost_ret (v := .tuple #[.pointer (some ⟨X, 0, none⟩), .int .i64 0]) (by simp only [results, Tryz.results66]; go_simp) rfl ⟨X, rfl, HF.out⟩
set_option maxHeartbeats 4000000 in
set_option maxRecDepth 20000 in
theorem Modules_any {ae : Option Addr} {h : List Evt} {w : World} (ce : Nat) (nm : ByteArray) (hE : EvAt ae h w) (hG : Glob0 w) (hl : LegA nm h) : Calls Tryz.prog 21 #[.string nm, .slice ae h.length ce] w fun en w' => ∃ v', en = .returned (.tuple #[v', .int .i64 0]) ∧ SRow v' (lifeOf nm h).ms w' ∧ Below w.heap.size w w' := by
 have CF := Lib.hid (whole_any ce nm hE hG hl)
 clear hE hG hl
 go_enter Tryz.func21, Tryz.ntmps21
 go_wp2_with (go_at_call 66; refine CF.out.mono ?_; rintro e w1 ⟨X, rfl, hf⟩; have HF := Lib.hid hf; obtain ⟨vm, vo, hL, hn⟩ := hf.life; have HL := Lib.hid hL; obtain ⟨am, cm, evm, -⟩ := hL.ms; subst evm; have n9 := hL.open1.2.2.2.1; have nl := hL.lt; clear hf hL hn)
 exact bodyPost_ret (v := .tuple #[.slice am (lifeOf nm h).ms.length cm, .int .i64 0]) (by simp only [results, Tryz.results21]; go_simp) rfl ⟨_, rfl, HL.out.ms, HF.out.bel⟩
end Go.Proofs.YtmpilgkfbibhlaaGreatDoor
namespace Go.Proofs.YtmpilgkfbibhlaaGreatDoor
open Go
section
variable {a : RegA} {n i : Nat} {e : Evt} {p : ByteArray × List Ent} {b t t0 t1 : Int} {nm m to bt r : ByteArray}
theorem newA_ok {pt : Nat} {bks : List Bk} (h : secR pt bks = 0) : OkA (newA pt bks) := by
 refine ⟨⟨h, rfl, fun k => ?_, Nat.zero_le _, (fun p hp => by cases hp)⟩, (fun p hp => by cases hp), (fun i j p q hp => by simp [newA] at hp), (fun p hp => by cases hp)⟩
 have : ∀ k, (newA pt bks).used.getD k 0 = 0 := fun k => by
  show (List.replicate 8 0).getD k 0 = 0
  rw [List.getD_eq_getElem?_getD, List.getElem?_replicate]
  split <;> rfl
 rw [this]
 exact Nat.zero_le _
theorem put_names (hp : a.ps[i]? = some p) {j : Nat} {q : ByteArray × List Ent} (hq : (putA a n i e).ps[j]? = some q) : ∃ q0, a.ps[j]? = some q0 ∧ q0.1 = q.1 := by
 by_cases c : j = i
 ·subst c
  rw [putA_eq hp] at hq
  obtain rfl := Option.some.inj hq
  exact ⟨p, hp, rfl⟩
 ·rw [putA_ne c] at hq
  exact ⟨q, hq, rfl⟩
theorem put_has (hp : a.ps[i]? = some p) {o : ByteArray × List Ent} (ho : o ∈ a.ps) : ∃ o' ∈ (putA a n i e).ps, o'.1 = o.1 := by
 obtain ⟨j, hj⟩ := List.getElem?_of_mem ho
 by_cases c : j = i
 ·subst c
  rw [hp] at hj
  obtain rfl := Option.some.inj hj
  exact ⟨_, List.mem_of_getElem? (putA_eq (n := n) (e := e) hp), rfl⟩
 ·exact ⟨o, List.mem_of_getElem? ((putA_ne c).trans hj), rfl⟩
theorem OkA.mk_put (hp : a.ps[i]? = some p) (hb : OkB (putA a n i e)) (hne : ∀ j q, j ≠ i → a.ps[j]? = some q → q.2 ≠ []) (hnm : ∀ (i j : Nat) (p q : ByteArray × List Ent), a.ps[i]? = some p → a.ps[j]? = some q → p.1 = q.1 → i = j)
  (horg : ∀ q ∈ a.ps, ∀ m ∈ (lf q).ms, ∃ o ∈ a.ps, o.1 = (cutS m).1) (hnew : ∀ m ∈ ((lf p).add p.1 e).ms, ∃ o ∈ a.ps, o.1 = (cutS m).1) : OkA (putA a n i e) := by
 refine ⟨hb, fun q hq => ?_, fun j k q x hq hx hqx => ?_, fun q hq m hm => ?_⟩
 ·obtain ⟨j, hj⟩ := List.getElem?_of_mem hq
  by_cases c : j = i
  ·subst c
   rw [putA_eq hp] at hj
   obtain rfl := Option.some.inj hj
   simp [putP]
  ·exact hne j q c ((putA_ne c).symm.trans hj)
 ·obtain ⟨q0, h1, h2⟩ := put_names hp hq
  obtain ⟨x0, h3, h4⟩ := put_names hp hx
  exact hnm j k q0 x0 h1 h3 (h2.trans (hqx.trans h4.symm))
 ·obtain ⟨j, hj⟩ := List.getElem?_of_mem hq
  have key : ∃ o ∈ a.ps, o.1 = (cutS m).1 := by
   by_cases c : j = i
   ·subst c
    rw [putA_eq hp] at hj
    obtain rfl := Option.some.inj hj
    rw [lf_put] at hm
    exact hnew m hm
   ·exact horg q (List.mem_of_getElem? ((putA_ne c).symm.trans hj)) m hm
  obtain ⟨o, h1, h2⟩ := key
  obtain ⟨o', h3, h4⟩ := put_has (n := n) (e := e) hp h1
  exact ⟨o', h3, h4.trans h2⟩
theorem ms_sub {x : LifeS} (h1 : e.1 ≠ 1) (h5 : e.1 ≠ 5) : ∀ m ∈ (x.add nm e).ms, m ∈ x.ms := by
 intro m hm
 obtain ⟨k, t, ea, eb, n1, ot⟩ := e
 change m ∈ modStep nm x.ms (k, t, ea, eb, n1, ot) at hm
 unfold modStep at hm
 dsimp only at hm h1 h5
 rw [if_neg h1, if_neg h5] at hm
 split at hm
 ·exact (List.mem_filter.1 hm).1
 ·exact hm
theorem OkA.put (ho : OkA a) (hp : a.ps[i]? = some p) (hok : okX e = true) (hcan : canP p.1 (lf p) e = true) (hl : p.2.length < 500) (hu : a.used.getD n 0 < (a.bks.getD n (0, [])).2.length) (hnew : ∀ m ∈ ((lf p).add p.1 e).ms, ∃ o ∈ a.ps, o.1 = (cutS m).1) : OkA (putA a n i e) :=
 OkA.mk_put hp (ho.toOkB.put hp hok hcan hl hu) (fun _ q _ hq => ho.ne q (List.mem_of_getElem? hq)) ho.nm ho.org hnew
theorem left_use (hb : n < a.bks.length) (h : ¬ leftA a (n : Int) < 1) : a.used.getD n 0 < (a.bks.getD n (0, [])).2.length := by
 have := leftA_at hb
 omega
theorem findA_new (ho : OkA a) (h4 : ¬ findA nm a < a.ps.length) : ∀ p ∈ a.ps, p.1 ≠ nm := by
 intro p hp e
 apply h4
 exact List.findIdx_lt_length.2 ⟨p, hp, eqT_iff.2 e⟩
theorem enterA_ok (ho : OkA a) (b : Int) (nm : ByteArray) (e : Evt) : OkA (enterA a b nm e).2 := by
 by_cases hb : 0 ≤ b ∧ b < a.bks.length
 ·by_cases hv : nameB nm = true ∧ okX e = true ∧ e.1 ≠ 5 ∧ e.1 ≠ 6
  ·obtain ⟨n, rfl⟩ := Int.eq_ofNat_of_zero_le hb.1
   have hnb : n < a.bks.length := by omega
   by_cases hk : e.1 = 1
   ·rw [enterA_m hb hv hk]
    split
    ·exact ho
    ·rename_i h4
     split
     ·exact ho
     ·rename_i h5
      split
      ·exact ho
      ·rename_i h6
       dsimp only
       rw [Int.toNat_natCast]
       have hp : ({ a with ps := a.ps ++ [(nm, [])] } : RegA).ps[a.ps.length]? = some (nm, []) := by simp
       have hob := ho.toOkB.addP hv.1 (show a.ps.length < 100 by omega)
       have hcan : canP nm (lf (nm, [])) e = true := by show canP nm life0 e = true; unfold canP; rw [if_pos (show life0.n = 0 from rfl), hk]; rfl
       have hin : ∀ (j : Nat) (q : ByteArray × List Ent), (a.ps ++ [(nm, [])])[j]? = some q → (j < a.ps.length ∧ a.ps[j]? = some q) ∨ (j = a.ps.length ∧ q = (nm, [])) := fun j q hq => by
        rcases Nat.lt_or_ge j a.ps.length with c | c
        ·rw [List.getElem?_append_left c] at hq; exact Or.inl ⟨c, hq⟩
        ·rw [List.getElem?_append_right c] at hq
         have h1 := (List.getElem?_eq_some_iff.1 hq).1
         simp at h1
         have h2 : j = a.ps.length := by omega
         subst h2
         simp at hq
         exact Or.inr ⟨rfl, hq.symm⟩
       have hnw := findA_new ho h4
       refine OkA.mk_put hp (hob.put hp hv.2.1 hcan (Nat.zero_lt_succ _) (left_use (a := a) hnb h6)) (fun j q hj hq => ?_) (fun x y q z hq hz hqz => ?_) (fun q hq m hm => ?_) (fun m hm => ?_)
       ·rcases hin j q hq with ⟨-, c⟩ | ⟨c, -⟩
        ·exact ho.ne q (List.mem_of_getElem? c)
        ·exact absurd c hj
       ·rcases hin x q hq with ⟨c1, c⟩ | ⟨c1, rfl⟩
        ·rcases hin y z hz with ⟨d1, d⟩ | ⟨d1, rfl⟩
         ·exact ho.nm x y q z c d hqz
         ·exact absurd hqz (hnw q (List.mem_of_getElem? c))
        ·rcases hin y z hz with ⟨d1, d⟩ | ⟨d1, rfl⟩
         ·exact absurd hqz.symm (hnw z (List.mem_of_getElem? d))
         ·omega
       ·rcases List.mem_append.1 hq with hq | hq
        ·obtain ⟨o, h1, h2⟩ := ho.org q hq m hm
         exact ⟨o, List.mem_append_left _ h1, h2⟩
        ·obtain rfl := List.mem_singleton.1 hq
         cases hm
       ·obtain ⟨k, t, ea, eb, n1, ot⟩ := e
        change m ∈ modStep nm [] (k, t, ea, eb, n1, ot) at hm
        unfold modStep at hm
        dsimp only at hm hk
        rw [if_pos hk] at hm
        subst hk
        rw [List.nil_append] at hm
        obtain ⟨x, hx, rfl⟩ := List.mem_map.1 hm
        have hb2 := (made_b (show okE 1 t ea eb n1 ot = true from hv.2.1)).2
        exact ⟨(nm, []), List.mem_append_right _ (by simp), (modN_mod hv.1 (by have := List.mem_range.1 hx; omega)).2.symm⟩
   ·rw [enterA_n hb hv hk]
    cases hp : a.ps[findA nm a]? with
    | none => exact ho
    | some p =>
     dsimp only
     split
     ·exact ho
     ·rename_i h5
      split
      ·exact ho
      ·rename_i h6
       split
       ·exact ho
       ·rename_i h8
        dsimp only
        rw [Int.toNat_natCast]
        exact ho.put hp hv.2.1 (by simpa using h5) (by omega) (left_use hnb h8) fun m hm => ho.org p (List.mem_of_getElem? hp) m (ms_sub hk hv.2.2.1 m hm)
  ·rw [enterA_2 hb hv]; exact ho
 ·rw [enterA_1 hb]; exact ho
theorem where_has (hp : a.ps[whereA m a]? = some p) : m ∈ (lf p).ms := by
 have hl := (List.getElem?_eq_some_iff.1 hp).1
 have h1 := List.findIdx_getElem (w := hl)
 have h9 : a.ps[List.findIdx (fun p => hasT (lf p).ms m) a.ps]'hl = p := (List.getElem?_eq_some_iff.1 hp).2
 rw [h9] at h1
 obtain ⟨x, h2, h3⟩ := List.any_eq_true.1 h1
 rw [← eqT_iff.1 h3]
 exact h2
theorem moveA_ok (ho : OkA a) (b t : Int) (m to : ByteArray) : OkA (moveA a b t m to).2 := by
 by_cases hb : 0 ≤ b ∧ b < a.bks.length
 ·by_cases hv : modB m = true ∧ nameB to = true ∧ timeB t = true
  ·obtain ⟨n, rfl⟩ := Int.eq_ofNat_of_zero_le hb.1
   have hnb : n < a.bks.length := by omega
   cases hp : a.ps[whereA m a]? with
   | none => rw [moveA_3 hb hv (Or.inl hp)]; exact ho
   | some p =>
    cases hq : a.ps[findA to a]? with
    | none => rw [moveA_3 hb hv (Or.inr hq)]; exact ho
    | some q =>
     rw [moveA_4 hb hv hp hq]
     split
     ·exact ho
     ·rename_i h6
      split
      ·exact ho
      ·rename_i h9
       split
       ·exact ho
       ·rename_i h10
        dsimp only
        rw [Int.toNat_natCast]
        simp only [not_or, Bool.not_eq_false] at h6
        obtain ⟨h6, h7, h8⟩ := h6
        have hus := leftA_at hnb
        have hmp := where_has hp
        have o1 : OkA (putA a n (whereA m a) (takeE t m to)) := ho.put hp (take_ok hv) h7 (by omega) (by omega) fun x hx => ho.org p (List.mem_of_getElem? hp) x (ms_sub (e := takeE t m to) (show (6 : Int) ≠ 1 by decide) (show (6 : Int) ≠ 5 by decide) x hx)
        have hq1 : (putA a n (whereA m a) (takeE t m to)).ps[findA to a]? = some q := by rw [putA_ne (fun c => h6 c.symm)]; exact hq
        refine o1.put hq1 (bring_ok hv.1 (ho.p p (List.mem_of_getElem? hp)).2.2.2 hv.2.2) h8 (by omega) (by rw [putA_bks.1, putA_used hp, getD_set]; split <;> omega) fun x hx => ?_
        have hx2 : x ∈ (lf q).ms ++ [m] := hx
        rcases List.mem_append.1 hx2 with hx2 | hx2
        ·exact o1.org q (List.mem_of_getElem? hq1) x hx2
        ·obtain rfl := List.mem_singleton.1 hx2
         obtain ⟨o, g1, g2⟩ := ho.org p (List.mem_of_getElem? hp) x hmp
         obtain ⟨o', g3, g4⟩ := put_has (n := n) (e := takeE t x to) hp g1
         exact ⟨o', g3, g4.trans g2⟩
  ·rw [moveA_2 hb hv]; exact ho
 ·rw [moveA_1 hb]; exact ho
theorem recC_of (ho : OkA a) (hb : n < a.bks.length) (hv : nameB bt = true ∧ nameB r = true ∧ timeB t = true ∧ timeB t0 = true ∧ timeB t1 = true) (h1 : (affA a bt t0 t1 r).any (fun i => decide (t < (lf (packA a i)).at_)) = false)
  (h2 : (affA a bt t0 t1 r).any (fun i => decide (500 ≤ (packA a i).2.length)) = false) (h3 : ¬ leftA a (n : Int) < (affA a bt t0 t1 r).length) : RecC a (affA a bt t0 t1 r) n t r := by
 refine ⟨affA_nodup _ _ _ _ _, hb, by have := leftA_at hb; omega, rec_ok hv.2.1 hv.2.2.1, fun i hi => ?_⟩
 obtain ⟨p, p1, p2, p3⟩ := affA_mem hi
 have c1 := List.any_eq_false.1 h1 i hi
 have c2 := List.any_eq_false.1 h2 i hi
 rw [p3] at c1 c2
 exact ⟨p, p1, aff_can ho p1 p2 (by simpa using c1), by simpa using c2⟩
theorem recs_ok (ho : OkA a) {L : List Nat} (hc : RecC a L n t r) : ∀ j, j ≤ L.length → OkA (recsA t r n (L.take j) a) ∧ RecI a (recsA t r n (L.take j) a) L n j := by
 intro j
 induction j with
 | zero => exact fun _ => ⟨ho, RecI.start ho.toOkB L n⟩
 | succ j ih =>
  intro hj
  obtain ⟨o1, i1⟩ := ih (by omega)
  obtain ⟨i, hi⟩ : ∃ i, L[j]? = some i := ⟨L[j], List.getElem?_eq_getElem (by omega)⟩
  obtain ⟨⟨p, hp, hp0⟩, hb, hu, i2⟩ := i1.next hc hi
  rw [recs_step hi]
  obtain ⟨p9, hp9, hcan, hl⟩ := hc.p i (List.mem_of_getElem? hi)
  rw [hp0] at hp9
  obtain rfl := Option.some.inj hp9
  exact ⟨o1.put hp hc.ok hcan hl hu fun x hx => o1.org p (List.mem_of_getElem? hp) x (ms_sub (e := recE t r) (show (7 : Int) ≠ 1 by decide) (show (7 : Int) ≠ 5 by decide) x hx), i2⟩
theorem recallA_ok (ho : OkA a) (b t : Int) (bt : ByteArray) (t0 t1 : Int) (r : ByteArray) : OkA (recallA a b t bt t0 t1 r).2.2 := by
 by_cases hb : 0 ≤ b ∧ b < a.bks.length
 ·by_cases hv : nameB bt = true ∧ nameB r = true ∧ timeB t = true ∧ timeB t0 = true ∧ timeB t1 = true
  ·obtain ⟨n, rfl⟩ := Int.eq_ofNat_of_zero_le hb.1
   rw [recallA_3 hb hv]
   split
   ·exact ho
   ·rename_i h1
    split
    ·exact ho
    ·rename_i h2
     split
     ·exact ho
     ·rename_i h3
      dsimp only
      rw [Int.toNat_natCast]
      have hc := recC_of ho (show n < a.bks.length by omega) hv (by simpa using h1) (by simpa using h2) h3
      have := (recs_ok ho hc _ (Nat.le_refl _)).1
      rw [List.take_length] at this
      exact this
  ·rw [recallA_2 hb hv]; exact ho
 ·rw [recallA_1 hb]; exact ho
end
end Go.Proofs.YtmpilgkfbibhlaaGreatDoor
