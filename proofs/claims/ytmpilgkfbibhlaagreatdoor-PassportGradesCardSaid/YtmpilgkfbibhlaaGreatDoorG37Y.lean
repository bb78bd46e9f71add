/-
 The laws' worlds behind deeds: what all four laws lean on; the parameter of deeds.
-/
import Derived.Test.YtmpilgkfbibhlaaGreatDoorG35Y
import Derived.Test.YtmpilgkfbibhlaaGreatDoorG36Y
import Derived.Test.YtmpilgkfbibhlaaGreatDoorG32Y
import Derived.Test.YtmpilgkfbibhlaaGreatDoorG33Y
import Derived.Test.YtmpilgkfbibhlaaGreatDoorG16Y
import Derived.Test.YtmpilgkfbibhlaaGreatDoorG25Y
import Derived.Test.YtmpilgkfbibhlaaGreatDoorG22Y
import Derived.Test.YtmpilgkfbibhlaaGreatDoorG9Y
import Derived.Great.Walk
import Derived.Deep.CutBlock
set_option linter.unusedSimpArgs false
set_option linter.unusedVariables false
namespace Go.Proofs.YtmpilgkfbibhlaaGreatDoor
open Sx Go.RowKit Mr
open Go.ChangeShapes Go.WideShapes Go.ChangeAt Go.Deep
def wl0 (s : Nat) : WdS := ⟨newA 123456789 (booksW s 3), 0, [], [], [], []⟩
def wlN (s : Nat) (l : List Sm) : WdS := l.foldl doW (wl0 s)
theorem wlN_snoc (s : Nat) (l : List Sm) (x : Sm) : wlN s (l ++ [x]) = doW (wlN s l) x := by unfold wlN; rw [List.foldl_append]; rfl
theorem wlN_ok {s : Nat} (hs : s < 256) : ∀ l : List Sm, OkW (wlN s l) l.length := by
 refine snocInd (OkW.zero (secW s hs)) fun l x ih => ?_
 rw [wlN_snoc, List.length_append]
 exact ih.do_ x
theorem wlN_ver {s : Nat} (hs : s < 256) : ∀ l : List Sm, VerI (wlN s l).a := by
 refine snocInd (VerI.zero (booksW_len s 3)) fun l x ih => ?_
 rw [wlN_snoc]
 exact ih.do_ (wlN_ok hs l).ok x
theorem wlN_mod {s : Nat} (hs : s < 256) : ∀ l : List Sm, l.length ≤ 100 → ModW (wlN s l) := by
 refine snocInd (fun _ => ModW.zero) fun l x ih hl => ?_
 rw [List.length_append, List.length_singleton] at hl
 rw [wlN_snoc]
 exact (ih (by omega)).do_ (wlN_ok hs l) (by omega) x
theorem doW_bks (S : WdS) (x : Sm) (ho : OkA S.a) : (doW S x).a.bks = S.a.bks ∧ (doW S x).a.pt = S.a.pt := by
 have hC : PutC (fun _ => True) (fun a => a.bks = S.a.bks ∧ a.pt = S.a.pt) := fun a n i e p _ h _ _ _ _ _ _ => by show (putA a n i e).bks = _ ∧ (putA a n i e).pt = _; rw [putA_bks.1, putA_bks.2]; exact h
 have h := resW_keep hC ho ⟨rfl, rfl⟩ x (fun _ _ _ _ _ => trivial) (fun _ _ => ⟨rfl, rfl⟩)
 unfold doW
 split
 ·exact h
 ·exact h
theorem wlN_bks {s : Nat} (hs : s < 256) : ∀ l : List Sm, (wlN s l).a.bks = booksW s 3 ∧ (wlN s l).a.pt = 123456789 := by
 refine snocInd ⟨rfl, rfl⟩ fun l x ih => ?_
 rw [wlN_snoc, (doW_bks _ x (wlN_ok hs l).ok).1, (doW_bks _ x (wlN_ok hs l).ok).2]
 exact ih
theorem take_snoc {α : Type} {l : List α} {i : Nat} {x : α} (h : l[i]? = some x) : l.take (i + 1) = l.take i ++ [x] := by rw [List.take_add_one, h]; rfl
def SmsAt (a : Option Addr) (l : List Sm) (W : World) : Prop := l ≠ [] → ∃ b off, a = some ⟨b, off, none⟩ ∧ b < W.heap.size ∧ ∀ (k : Nat) (x : Sm), l[k]? = some x → ∀ (j : Nat) (u : Value), (smC x)[j]? = some u → W.cell? ⟨b, off + k * 7 + j, none⟩ = some u
theorem SmsAt.step {a : Option Addr} {l : List Sm} {W w2 : World} (h : SmsAt a l W) (hb : Below W.heap.size W w2) : SmsAt a l w2 := fun hn => by
 obtain ⟨b, off, e1, e2, e3⟩ := h hn
 exact ⟨b, off, e1, Nat.lt_of_lt_of_le e2 hb.size, fun k x hk j u hj => cell_step (e3 k x hk j u hj) hb⟩
section
variable {H : Type} {enc : TypeId × Value → H} {W : World} {held : Bool}
theorem wf_u8m {n : Int} (h : (Lit.int .u8 n).wf = true) : ∃ k : Nat, n = (k : Int) ∧ k < 256 := by
 simp only [Lit.wf, Bool.and_eq_true, decide_eq_true_eq] at h
 have h1 : (0 : Int) ≤ n := h.1
 have h2 : n ≤ 255 := h.2
 exact ⟨n.toNat, by omega, by omega⟩
theorem wf_u16m {n : Int} (h : (Lit.int .u16 n).wf = true) : ∃ k : Nat, n = (k : Int) ∧ k < 65536 := by
 simp only [Lit.wf, Bool.and_eq_true, decide_eq_true_eq] at h
 have h1 : (0 : Int) ≤ n := h.1
 have h2 : n ≤ 65535 := h.2
 exact ⟨n.toNat, by omega, by omega⟩
set_option maxRecDepth 20000 in
theorem sml_cells {n : Nat} {cs : List Value} {x : DataW H × List MemPlace} (h : DataW.trod enc Tryz.prog W 0 (fun _ => true) held n 43 cs = some x) : ∃ y : Sm, cs = smC y ∧ SmOk y := by
 obtain ⟨xs, k, hk, hxy, hcl, hxl, hf⟩ := DataW.trod_struct Tryz.underlying43 h
 rw [show Tryz.prog.cellsOf 43 = 7 by kernel_rfl] at hcl
 match xs, hxl, cs, hcl with
 | [y0, y1, y2, y3, y4, y5, y6], _, [v0, v1, v2, v3, v4, v5, v6], _ =>
  have g0 := hf 0 _ rfl
  have g1 := hf 1 _ rfl
  have g2 := hf 2 _ rfl
  have g3 := hf 3 _ rfl
  have g4 := hf 4 _ rfl
  have g5 := hf 5 _ rfl
  have g6 := hf 6 _ rfl
  have k0 : Tryz.prog.cellsOf 5 = 1 := by kernel_rfl
  have k1 : Tryz.prog.cellsOf 41 = 1 := by kernel_rfl
  simp only [List.getElem_toArray, List.getElem_cons_zero, List.getElem_cons_succ] at g0 g1 g2 g3 g4 g5 g6
  rw [k0] at g0 g1 g2 g3 g4 g6
  rw [k1] at g5
  simp only [List.drop_zero, List.drop_succ_cons, List.take_succ_cons, List.take_zero, List.getElem?_cons_zero, List.getElem?_cons_succ] at g0 g1 g2 g3 g4 g5 g6
  obtain ⟨a0, b0, -, w0⟩ := DataW.trod_int Tryz.underlying5 g0
  obtain ⟨a1, b1, -, w1⟩ := DataW.trod_int Tryz.underlying5 g1
  obtain ⟨a2, b2, -, w2⟩ := DataW.trod_int Tryz.underlying5 g2
  obtain ⟨a3, b3, -, w3⟩ := DataW.trod_int Tryz.underlying5 g3
  obtain ⟨a4, b4, -, w4⟩ := DataW.trod_int Tryz.underlying5 g4
  obtain ⟨a5, b5, -, w5⟩ := DataW.trod_int Tryz.underlying41 g5
  obtain ⟨a6, b6, -, w6⟩ := DataW.trod_int Tryz.underlying5 g6
  simp only [List.cons.injEq, and_true] at b0 b1 b2 b3 b4 b5 b6
  obtain ⟨p0, rfl, q0⟩ := wf_u8m w0
  obtain ⟨p1, rfl, q1⟩ := wf_u8m w1
  obtain ⟨p2, rfl, q2⟩ := wf_u8m w2
  obtain ⟨p3, rfl, q3⟩ := wf_u8m w3
  obtain ⟨p4, rfl, q4⟩ := wf_u8m w4
  obtain ⟨p5, rfl, q5⟩ := wf_u16m w5
  obtain ⟨p6, rfl, q6⟩ := wf_u8m w6
  subst b0 b1 b2 b3 b4 b5 b6
  exact ⟨⟨p0, p1, p2, p3, p4, p5, p6⟩, rfl, ⟨q0, q1, q2, q3, q4, q5, q6⟩⟩
theorem smalls_open {n : Nat} {v : Value} {x : DataW H × List MemPlace} (h : DataW.trod enc Tryz.prog W 0 (fun _ => true) held n 36 [v] = some x) :
  ∃ (a : Option Addr) (c : Nat) (l : List Sm), v = .slice a l.length c ∧ l.length ≤ c ∧ c ≤ maxLen ∧ (∀ q ∈ l, SmOk q) ∧ SmsAt a l W := by
 haveI : Inhabited Sm := ⟨⟨0, 0, 0, 0, 0, 0, 0⟩⟩
 exact rows_open (cells := smC) (Ok := SmOk) (sz := 7) Tryz.underlying36 (by kernel_rfl) (by decide) (fun h => sml_cells h) h
end
end Go.Proofs.YtmpilgkfbibhlaaGreatDoor
namespace Go.Proofs.YtmpilgkfbibhlaaGreatDoor
open Sx Go.RowKit Mr
structure CaV (P : World → Prop) (A : Value → World → Prop) (C : Value → Value) (b0 b1 b2 b3 : Bool) (v0 v1 v2 v3 : Value) (W : World) : Prop where
 p : P W
 x : ∃ v', (b0 = true → v0 = C v' ∧ A v' W) ∧ (b1 = true → v1 = C v') ∧ (b2 = true → v2 = v') ∧ (b3 = true → v3 = v')
 n0 : b0 = false → b1 = false
 n1 : b1 = false → b2 = false
 n2 : b2 = false → b3 = false
section
variable {P : World → Prop} {A : Value → World → Prop} {C : Value → Value} {b0 b1 b2 b3 : Bool} {v0 v1 v2 v3 : Value} {W w2 : World}
theorem CaV.start (h : P W) : CaV P A C false false false false v0 v1 v2 v3 W := ⟨h, ⟨.bool false, (fun e => by cases e), (fun e => by cases e), (fun e => by cases e), (fun e => by cases e)⟩, fun _ => rfl, fun _ => rfl, fun _ => rfl⟩
theorem CaV.mk0 (h : CaV P A C false b1 b2 b3 v0 v1 v2 v3 W) {v' : Value} (hp : P w2) (ha : A v' w2) : CaV P A C true b1 b2 b3 (C v') v1 v2 v3 w2 := by
 have h1 := h.n0 rfl
 subst h1
 have h2 := h.n1 rfl
 subst h2
 have h3 := h.n2 rfl
 subst h3
 exact ⟨hp, ⟨v', (fun _ => ⟨rfl, ha⟩), (fun e => by cases e), (fun e => by cases e), (fun e => by cases e)⟩, (fun e => by cases e), fun _ => rfl, fun _ => rfl⟩
theorem CaV.val0 (h : CaV P A C true b1 b2 b3 v0 v1 v2 v3 W) : ∃ v', v0 = C v' := by
 obtain ⟨v', h1, -⟩ := h.x
 exact ⟨v', (h1 rfl).1⟩
theorem CaV.val1 (h : CaV P A C b0 true b2 b3 v0 v1 v2 v3 W) : ∃ v', v1 = C v' := by
 obtain ⟨v', -, h1, -⟩ := h.x
 exact ⟨v', h1 rfl⟩
theorem CaV.mk1 (h : CaV P A C true false b2 b3 v0 v1 v2 v3 W) : CaV P A C true true b2 b3 v0 v0 v2 v3 W := by
 obtain ⟨v', h0, h1, h2, h3⟩ := h.x
 exact ⟨h.p, ⟨v', h0, (fun _ => (h0 rfl).1), h2, h3⟩, (fun e => by cases e), (fun e => by cases e), h.n2⟩
theorem CaV.mk2 (hC : ∀ x y, C x = C y → x = y) (h : CaV P A C b0 true false b3 v0 (C v1) v2 v3 W) : CaV P A C b0 true true b3 v0 (C v1) v1 v3 W := by
 obtain ⟨v', h0, h1, h2, h3⟩ := h.x
 obtain rfl := hC _ _ (h1 rfl)
 exact ⟨h.p, ⟨_, h0, h1, (fun _ => rfl), h3⟩, h.n0, (fun e => by cases e), (fun e => by cases e)⟩
theorem CaV.mk3 (h : CaV P A C b0 b1 true false v0 v1 v2 v3 W) : CaV P A C b0 b1 true true v0 v1 v2 v2 W := by
 obtain ⟨v', h0, h1, h2, h3⟩ := h.x
 exact ⟨h.p, ⟨v', h0, h1, h2, h2⟩, h.n0, h.n1, (fun e => by cases e)⟩
theorem CaV.fin (h : CaV P A C true true true true v0 v1 v2 v3 W) : P W ∧ v0 = C v3 ∧ v1 = C v3 ∧ v2 = v3 ∧ A v3 W := by
 obtain ⟨v', h0, h1, h2, h3⟩ := h.x
 obtain rfl := h3 rfl
 exact ⟨h.p, (h0 rfl).1, h1 rfl, h2 rfl, (h0 rfl).2⟩
end
def tup0 (v : Value) : Value := .tuple #[v, .int .i64 0]
theorem tup0_inj (x y : Value) (h : tup0 x = tup0 y) : x = y := by
 unfold tup0 at h
 simpa using h
def UsA (X : Nat) (pre : List Ent) (W : World) : Prop := ∃ U : Array Value, W.heap[X]? = some (.cells U 45 (0, 0)) ∧ U.size = 1200 ∧ ∀ b p : Nat, b < 3 → p < 400 → U[b * 400 + p]? = some (.bool (pairIn pre (b : Int) (p : Int)))
theorem zerosU : Tryz.zeroCells45.toList = List.replicate 1200 (.bool false) := by kernel_rfl
theorem UsA.start (w : World) : UsA w.heap.size [] (w.alloc (.cells Tryz.zeroCells45 45)) := by
 have h := zerosU
 refine ⟨_, blk_new w _, ?_, fun b p hb hp => ?_⟩
 ·rw [← Array.length_toList, h, List.length_replicate]
 ·rw [← Array.getElem?_toList, h, List.getElem?_replicate, if_pos (by omega)]
  rfl
theorem UsA.cell {X : Nat} {pre : List Ent} {W : World} (h : UsA X pre W) {b p : Nat} (hb : b < 3) (hp : p < 400) : W.cell? ⟨X, b * 400 + p, none⟩ = some (.bool (pairIn pre (b : Int) (p : Int))) ∧ W.frozen? ⟨X, b * 400 + p, none⟩ = false ∧ X < W.heap.size := by
 obtain ⟨U, h1, h2, h3⟩ := h
 exact ⟨blk_cell h1 (h3 b p hb hp), blk_free h1, blk_lt h1⟩
theorem pairIn_snoc (pre : List Ent) (y : Ent) (b p : Int) : pairIn (pre ++ [y]) b p = (pairIn pre b p || (y.2.1 == b && y.2.2.1 == p)) := by
 unfold pairIn
 rw [List.any_append]
 simp
theorem UsA.set {X : Nat} {pre : List Ent} {W : World} (h : UsA X pre W) {y : Ent} {b p : Nat} (hb : b < 3) (hp : p < 400) (e1 : y.2.1 = (b : Int)) (e2 : y.2.2.1 = (p : Int)) : UsA X (pre ++ [y]) (W.setCell ⟨X, b * 400 + p, none⟩ (.bool true)) := by
 obtain ⟨U, h1, h2, h3⟩ := h
 refine ⟨U.setIfInBounds (b * 400 + p) (.bool true), blk_set h1, by simpa using h2, fun b' p' hb' hp' => ?_⟩
 rw [pairIn_snoc, e1, e2]
 by_cases c : b' = b ∧ p' = p
 ·obtain ⟨rfl, rfl⟩ := c
  rw [Array.getElem?_setIfInBounds_self_of_lt (by omega)]
  simp
 ·have hne : b * 400 + p ≠ b' * 400 + p' := by omega
  rw [Array.getElem?_setIfInBounds_ne hne, h3 b' p' hb' hp']
  have : ((b : Int) == (b' : Int) && (p : Int) == (p' : Int)) = false := by
   rw [Bool.and_eq_false_iff]
   rcases Nat.decEq b b' with d | d
   ·exact Or.inl (by rw [beq_eq_false_iff_ne]; omega)
   ·exact Or.inr (by rw [beq_eq_false_iff_ne]; omega)
  rw [this, Bool.or_false]
def preE (a : RegA) (k : Nat) : List Ent := (a.ps.take k).flatMap fun p => p.2
theorem preE_snoc {a : RegA} {k : Nat} {p : ByteArray × List Ent} (h : a.ps[k]? = some p) : preE a (k + 1) = preE a k ++ p.2 := by
 unfold preE
 rw [take_snoc h, List.flatMap_append]
 simp
theorem preE_all (a : RegA) : preE a a.ps.length = allE a := by unfold preE allE; rw [List.take_length]
theorem preE_part {a : RegA} {k : Nat} {p : ByteArray × List Ent} (h : a.ps[k]? = some p) : ∃ r, allE a = preE a k ++ p.2 ++ r := by
 refine ⟨(a.ps.drop (k + 1)).flatMap fun p => p.2, ?_⟩
 rw [← preE_snoc h]
 unfold preE allE
 rw [← List.flatMap_append, List.take_append_drop]
theorem PadI.fresh {a : RegA} (h : PadI a) (hu : ∀ n, n < 3 → a.used.getD n 0 ≤ 400) {pre es : List Ent} {j : Nat} {y : Ent} {r : List Ent} (ha : allE a = pre ++ es ++ r) (hy : es[j]? = some y) : ∃ b p : Nat, y.2.1 = (b : Int) ∧ y.2.2.1 = (p : Int) ∧ b < 3 ∧ p < 400 ∧ pairIn (pre ++ es.take j) (b : Int) (p : Int) = false ∧ (pre ++ es).length ≤ 1200 := by
 have hy2 : y ∈ allE a := by rw [ha]; exact List.mem_append_left _ (List.mem_append_right _ (List.mem_of_getElem? hy))
 obtain ⟨b, p, e1, e2, e3, e4⟩ := h.rg y hy2
 have hb := hu b e3
 refine ⟨b, p, e1, e2, e3, by omega, ?_, ?_⟩
 ·unfold pairIn
  refine List.any_eq_false.2 fun z hz c => ?_
  rw [Bool.and_eq_true, beq_iff_eq, beq_iff_eq] at c
  have hn := h.nd
  have hes : es = es.take j ++ y :: es.drop (j + 1) := by
   have hlt := (List.getElem?_eq_some_iff.1 hy).1
   have : es.drop j = y :: es.drop (j + 1) := by
    rw [List.drop_eq_getElem_cons hlt]
    rw [List.getElem?_eq_getElem hlt] at hy
    rw [Option.some.inj hy]
   rw [← this, List.take_append_drop]
  rw [ha, hes, List.map_append, List.map_append, List.map_append, List.map_cons] at hn
  have h1 := (List.nodup_append.1 hn).1
  rw [← List.append_assoc] at h1
  have h2 := (List.nodup_append.1 h1).2.2
  refine h2 (prE z) ?_ (prE y) (List.mem_cons_self ..) ?_
  ·rw [← List.map_append]
   exact List.mem_map_of_mem hz
  ·unfold prE
   rw [c.1, c.2, e1, e2]
 ·have := h.ct
  have h0 := hu 0 (by decide)
  have h1 := hu 1 (by decide)
  have h2 := hu 2 (by decide)
  rw [ha, List.length_append] at this
  omega
theorem UsA.step {X : Nat} {pre : List Ent} {W w2 : World} (h : UsA X pre W) (hb : Below W.heap.size W w2) : UsA X pre w2 := by
 obtain ⟨U, h1, h2, h3⟩ := h
 exact ⟨U, blk_step h1 hb, h2, h3⟩
theorem ent_cell {B eb j t cv : Nat} {es : List Ent} {y : Ent} {u : Value} {W : World} (h : W.ownsRow B 31 10 (.slice (some ⟨eb, 0, none⟩) es.length cv) es.length (flatY es)) (hy : es[j]? = some y) (hu : (entC y)[t]? = some u) : W.cell? ⟨eb, j * 10 + t, none⟩ = some u ∧ eb < W.heap.size := by
 have hj := (List.getElem?_eq_some_iff.1 hy).1
 obtain ⟨b, e, hb, hc⟩ := row_cells (b := 0) (c := cv) h (by omega)
 cases e
 exact ⟨hc _ _ (flatY_at hy hu), hb⟩
structure StS (P C0 C1 : World → Prop) (b : Bool) (W : World) : Prop where
 p : P W
 a : b = false → C0 W
 z : b = true → C1 W
end Go.Proofs.YtmpilgkfbibhlaaGreatDoor
