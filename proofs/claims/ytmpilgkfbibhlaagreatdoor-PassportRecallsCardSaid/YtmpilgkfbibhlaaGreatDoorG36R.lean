/-
 do of the laws' worlds: what is on its way.
-/
import Derived.Test.YtmpilgkfbibhlaaGreatDoorG35R
import Derived.Test.YtmpilgkfbibhlaaGreatDoorG20R
import Derived.Test.YtmpilgkfbibhlaaGreatDoorG18R
import Derived.Deep.Slices
import Derived.Lib.SmallJoins
import Derived.OpenShut
import Derived.ChangeSame
import Derived.ChangeSlices
import Derived.ChangeShapes
import Derived.Test.YtmpilgkfbibhlaaGreatDoorG34R
set_option linter.unusedSimpArgs false
set_option linter.unusedVariables false
namespace Go.Proofs.YtmpilgkfbibhlaaGreatDoor
open Sx Go.RowKit Mr
def smC (x : Sm) : List Value := [.int .u8 (x.do_ : Int), .int .u8 (x.by_ : Int), .int .u8 (x.p : Int), .int .u8 (x.m : Int), .int .u8 (x.t : Int), .int .u16 (x.n : Int), .int .u8 (x.later : Int)]
structure DoS (w0 : World) (Wd R : Nat) (vb vk : Value) (bks : List Bk) (S : WdS) (g : RegS) (vp vpk vmd vbt vmk : Value) (X : Nat) (x : Sm) (W : World) : Prop where
 h : WdAt w0 Wd R vb vk bks S g vp vpk vmd vbt vmk W
 b : W.heap[X]? = some (.cells (smC x).toArray 43 (0, 0))
section
variable {w0 W w2 : World} {Wd R X : Nat} {vb vk vp vpk vmd vbt vmk : Value} {bks : List Bk} {S : WdS} {g : RegS} {x : Sm}
theorem DoS.step (h : DoS w0 Wd R vb vk bks S g vp vpk vmd vbt vmk X x W) (hb : Below W.heap.size W w2) : DoS w0 Wd R vb vk bks S g vp vpk vmd vbt vmk X x w2 := ⟨h.h.step hb, blk_step h.b hb⟩
theorem DoS.c (h : DoS w0 Wd R vb vk bks S g vp vpk vmd vbt vmk X x W) : W.cell? ⟨Wd, 0, none⟩ = some (.pointer (some ⟨R, 0, none⟩)) ∧ W.cell? ⟨Wd, 2, none⟩ = some (.int .i64 S.at_) ∧ W.cell? ⟨Wd, 3, none⟩ = some vpk ∧ W.cell? ⟨Wd, 4, none⟩ = some vmd ∧ W.cell? ⟨Wd, 5, none⟩ = some vbt ∧ W.cell? ⟨Wd, 6, none⟩ = some vmk ∧ Wd < W.heap.size :=
 ⟨blk_cell h.h.blk rfl, blk_cell h.h.blk rfl, blk_cell h.h.blk rfl, blk_cell h.h.blk rfl, blk_cell h.h.blk rfl, blk_cell h.h.blk rfl, blk_lt h.h.blk⟩
theorem DoS.sm (h : DoS w0 Wd R vb vk bks S g vp vpk vmd vbt vmk X x W) : W.cell? ⟨X, 0, none⟩ = some (.int .u8 (x.do_ : Int)) ∧ W.cell? ⟨X, 1, none⟩ = some (.int .u8 (x.by_ : Int)) ∧ W.cell? ⟨X, 2, none⟩ = some (.int .u8 (x.p : Int)) ∧ W.cell? ⟨X, 3, none⟩ = some (.int .u8 (x.m : Int)) ∧ W.cell? ⟨X, 4, none⟩ = some (.int .u8 (x.t : Int)) ∧ W.cell? ⟨X, 5, none⟩ = some (.int .u16 (x.n : Int)) ∧ W.cell? ⟨X, 6, none⟩ = some (.int .u8 (x.later : Int)) ∧ X < W.heap.size :=
 ⟨blk_cell h.b rfl, blk_cell h.b rfl, blk_cell h.b rfl, blk_cell h.b rfl, blk_cell h.b rfl, blk_cell h.b rfl, blk_cell h.b rfl, blk_lt h.b⟩
theorem DoS.setAt {t : Int} (h : DoS w0 Wd R vb vk bks S g vp vpk vmd vbt vmk X x W) : DoS w0 Wd R vb vk bks { S with at_ := t } g vp vpk vmd vbt vmk X x (W.setCell ⟨Wd, 2, none⟩ (.int .i64 t)) := by
 refine ⟨h.h.setAt, blk_set_other h.b (fun c => ?_)⟩
 have c2 : X = Wd := c
 have h1 := h.b
 rw [c2, h.h.blk] at h1
 cases h1
end
section
variable {w0 W W5 : World} {Wd R X : Nat} {vb vk vp vpk vmd vbt vmk v' : Value} {bks : List Bk} {S : WdS} {g : RegS} {x : Sm} {t : ByteArray} {i : Int}
theorem DoS.ne (h : DoS w0 Wd R vb vk bks S g vp vpk vmd vbt vmk X x W) : X ≠ Wd := fun c => by
 have h1 := h.b
 rw [c, h.h.blk] at h1
 cases h1
theorem DoS.appPk (h : DoS w0 Wd R vb vk bks S g vp vpk vmd vbt vmk X x W) (hg : W.grownBy W5 vpk.ownBlock) (ho : W5.ownsRow w0.heap.size 9 1 v' (S.packs.length + 1) (strC S.packs ++ [.string t])) (hat : v'.ownBlock = vpk.ownBlock ∨ v'.ownBlock = some W.heap.size) :
  W5.heap[Wd]? = some (.cells (wdC R vk S.at_ vpk vmd vbt vmk) 50 (0, 0)) ∧ W5.heap[X]? = some (.cells (smC x).toArray 43 (0, 0)) ∧ DoS w0 Wd R vb vk bks { S with packs := S.packs ++ [t] } g vp v' vmd vbt vmk X x (W5.setCell ⟨Wd, 3, none⟩ v') :=
 ⟨blk_kept h.h.blk hg h.h.pk (by decide), blk_kept h.b hg h.h.pk (by decide), h.h.appPk hg ho hat, blk_set_other (blk_kept h.b hg h.h.pk (by decide)) h.ne⟩
theorem DoS.appMd (h : DoS w0 Wd R vb vk bks S g vp vpk vmd vbt vmk X x W) (hg : W.grownBy W5 vmd.ownBlock) (ho : W5.ownsRow w0.heap.size 9 1 v' (S.mods.length + 1) (strC S.mods ++ [.string t])) (hat : v'.ownBlock = vmd.ownBlock ∨ v'.ownBlock = some W.heap.size) :
  W5.heap[Wd]? = some (.cells (wdC R vk S.at_ vpk vmd vbt vmk) 50 (0, 0)) ∧ W5.heap[X]? = some (.cells (smC x).toArray 43 (0, 0)) ∧ DoS w0 Wd R vb vk bks { S with mods := S.mods ++ [t] } g vp vpk v' vbt vmk X x (W5.setCell ⟨Wd, 4, none⟩ v') :=
 ⟨blk_kept h.h.blk hg h.h.md (by decide), blk_kept h.b hg h.h.md (by decide), h.h.appMd hg ho hat, blk_set_other (blk_kept h.b hg h.h.md (by decide)) h.ne⟩
theorem DoS.appBt (h : DoS w0 Wd R vb vk bks S g vp vpk vmd vbt vmk X x W) (hg : W.grownBy W5 vbt.ownBlock) (ho : W5.ownsRow w0.heap.size 9 1 v' (S.bts.length + 1) (strC S.bts ++ [.string t])) (hat : v'.ownBlock = vbt.ownBlock ∨ v'.ownBlock = some W.heap.size) :
  W5.heap[Wd]? = some (.cells (wdC R vk S.at_ vpk vmd vbt vmk) 50 (0, 0)) ∧ W5.heap[X]? = some (.cells (smC x).toArray 43 (0, 0)) ∧ DoS w0 Wd R vb vk bks { S with bts := S.bts ++ [t] } g vp vpk vmd v' vmk X x (W5.setCell ⟨Wd, 5, none⟩ v') :=
 ⟨blk_kept h.h.blk hg h.h.bt (by decide), blk_kept h.b hg h.h.bt (by decide), h.h.appBt hg ho hat, blk_set_other (blk_kept h.b hg h.h.bt (by decide)) h.ne⟩
theorem DoS.appTm (h : DoS w0 Wd R vb vk bks S g vp vpk vmd vbt vmk X x W) (hg : W.grownBy W5 vmk.ownBlock) (ho : W5.ownsRow w0.heap.size 2 1 v' (S.mds.length + 1) (S.mds.map (Value.int .i64) ++ [.int .i64 i])) :
  W5.heap[Wd]? = some (.cells (wdC R vk S.at_ vpk vmd vbt vmk) 50 (0, 0)) ∧ W5.heap[X]? = some (.cells (smC x).toArray 43 (0, 0)) ∧ DoS w0 Wd R vb vk bks { S with mds := S.mds ++ [i] } g vp vpk vmd vbt v' X x (W5.setCell ⟨Wd, 6, none⟩ v') :=
 ⟨blk_kept h.h.blk hg h.h.tm (by decide), blk_kept h.b hg h.h.tm (by decide), h.h.appTm hg ho, blk_set_other (blk_kept h.b hg h.h.tm (by decide)) h.ne⟩
end
structure AtS (P : World → Prop) (C0 C1 : World → Prop) (val : Value) (b0 b1 : Bool) (v0 : Value) (W : World) : Prop where
 p : P W
 a : b1 = false → C0 W
 z : b1 = true → C1 W
 r : b0 = true → v0 = val
 n : b0 = false → b1 = false
structure RcV (P C0 C1 : World → Prop) (val0 : Value) (C9 : Int) (b0 b1 b2 : Bool) (v0 v1 v2 : Value) (W : World) : Prop where
 p : P W
 a : b1 = false → C0 W
 z : b1 = true → C1 W
 r0 : b0 = true → v0 = val0
 n : b0 = false → b1 = false
 r1 : b1 = true → ∃ v', v1 = .tuple #[v', .int .i64 C9]
 r2 : b2 = true → ∃ v', v2 = .tuple #[v', .int .i64 C9]
structure EnV (P C0 C1 : World → Prop) (val0 val1 : Value) (b0 b1 : Bool) (v0 v1 : Value) (W : World) : Prop where
 p : P W
 a : b1 = false → C0 W
 z : b1 = true → C1 W
 r0 : b0 = true → v0 = val0
 n : b0 = false → b1 = false
 r1 : b1 = true → v1 = val1
theorem pick_no {l : List ByteArray} {k : Nat} {d : ByteArray} (h : l.length = 0) : pickT l k d = d := by unfold pickT; rw [if_pos h]
theorem pick_yes {l : List ByteArray} {k : Nat} {d : ByteArray} (h : l.length ≠ 0) : pickT l k d = l.getD (k % l.length) emp ∧ l[k % l.length]? = some (pickT l k d) := by
 have hlt : k % l.length < l.length := Nat.mod_lt _ (by omega)
 unfold pickT
 rw [if_neg h, List.getD_eq_getElem?_getD, List.getElem?_eq_getElem hlt]
 exact ⟨rfl, rfl⟩
end Go.Proofs.YtmpilgkfbibhlaaGreatDoor
namespace Go.Proofs.YtmpilgkfbibhlaaGreatDoor
open Go.ChangeShapes Go.WideShapes Go.ChangeAt Go.RowKit Go.Deep
section
variable {H : Type} {enc : TypeId × Value → H} {W : World} {held : Bool}
theorem rows_open {α : Type} [Inhabited α] {n sz : Nat} {T E : TypeId} {v : Value} {x : DataW H × List MemPlace} {cells : α → List Value} {Ok : α → Prop} (hT : Tryz.prog.underlying T = some (.slice E)) (hE : Tryz.prog.cellsOf E = sz) (hsz : 0 < sz)
  (each : ∀ {m : Nat} {cs : List Value} {y : DataW H × List MemPlace}, DataW.trod enc Tryz.prog W 0 (fun _ => true) held m E cs = some y → ∃ q : α, cs = cells q ∧ Ok q)
  (h : DataW.trod enc Tryz.prog W 0 (fun _ => true) held n T [v] = some x) :
  ∃ (a : Option Addr) (c : Nat) (l : List α), v = .slice a l.length c ∧ l.length ≤ c ∧ c ≤ maxLen ∧ (∀ q ∈ l, Ok q) ∧ (l ≠ [] → ∃ b off, a = some ⟨b, off, none⟩ ∧ b < W.heap.size ∧ ∀ (k : Nat) (q : α), l[k]? = some q → ∀ (j : Nat) (u : Value), (cells q)[j]? = some u → W.cell? ⟨b, off + k * sz + j, none⟩ = some u) := by
 rcases open_slice hT h with ⟨hcs, _⟩ | ⟨a, len, cap, m, n', D, Pl, hcs, hb, hl, hm, hmm, hx, hi⟩
 ·simp only [List.cons.injEq, and_true] at hcs
  exact ⟨none, 0, [], hcs, Nat.le_refl _, by decide, (fun q hq => by cases hq), fun hn => absurd rfl hn⟩
 ·simp only [List.cons.injEq, and_true] at hcs
  simp only [if_true] at hmm
  subst hmm
  rw [hE] at hi
  have each2 : ∀ i, i < len → ∃ q : α, Ok q ∧ (cells q).length = sz ∧ ∀ j, j < sz → W.cell? ((a.add (i * sz)).add j) = (cells q)[j]? := by
   intro i hlt
   obtain ⟨cs', h1, h2⟩ := hi i (by omega)
   obtain ⟨q, hq, hok⟩ := each h2
   obtain ⟨_, hlen, hc⟩ := World.cells?_some h1
   rw [hq] at hlen hc
   exact ⟨q, hok, hlen, hc⟩
  obtain ⟨f, hf⟩ := choose_lt each2
  have hlen : ((List.range len).map f).length = len := by simp
  refine ⟨some a, m, (List.range len).map f, by rw [hlen]; exact hcs, by rw [hlen]; exact hl, hm, fun q hq => ?_, fun hn => ?_⟩
  ·obtain ⟨i, hi2, rfl⟩ := List.mem_map.1 hq
   exact (hf i (List.mem_range.1 hi2)).1
  ·have h0 : 0 < len := by
    rcases Nat.eq_zero_or_pos len with e | e
    ·subst e; exact absurd rfl hn
    ·exact e
   obtain ⟨b, off, spot⟩ := a
   obtain ⟨-, hl0, hc0⟩ := hf 0 h0
   have hc00 := hc0 0 hsz
   rw [List.getElem?_eq_getElem (by omega)] at hc00
   have hspot : spot = none := by simpa [Addr.add] using World.cell?_spot hc00
   subst hspot
   have hadd : ∀ i j, (((⟨b, off, none⟩ : Addr).add i).add j) = ⟨b, off + i + j, none⟩ := fun i j => by rw [Addr.add_mid, Addr.add_mid]
   refine ⟨b, off, rfl, ?_, fun k q hk j u hj => ?_⟩
   ·rw [hadd] at hc00
    exact cell_lt hc00
   ·have hkl : k < len := by have := (List.getElem?_eq_some_iff.1 hk).1; omega
    have e : f k = q := by
     rw [List.getElem?_map, List.getElem?_range hkl] at hk
     simpa using hk
    subst e
    obtain ⟨-, hlk, hck⟩ := hf k hkl
    have hjl : j < sz := by have := (List.getElem?_eq_some_iff.1 hj).1; omega
    rw [← hadd, hck j hjl, hj]
end
end Go.Proofs.YtmpilgkfbibhlaaGreatDoor
namespace Go.Proofs.YtmpilgkfbibhlaaGreatDoor
open Sx Go.RowKit Mr
open Go.ChangeShapes Go.WideShapes Go.ChangeAt Go.Deep
def wl0 (s : Nat) : WdS := ⟨newA 123456789 (booksW s 3), 0, [], [], [], []⟩
def wlN (s : Nat) (l : List Sm) : WdS := l.foldl doW (wl0 s)
theorem wlN_snoc (s : Nat) (l : List Sm) (x : Sm) : wlN s (l ++ [x]) = doW (wlN s l) x := by unfold wlN; rw [List.foldl_append]; rfl
theorem wlN_ok {s : Nat} (hs : s < 256) : ∀ l : List Sm, OkW (wlN s l) l.length := by
 refine snocInd (OkW.zero (secW s hs)) fun l x ih => ?_
 rw [wlN_snoc, List.length_append]
 exact ih.do_ x
theorem wlN_ver {s : Nat} (hs : s < 256) : ∀ l : List Sm, VerI (wlN s l).a := by
 refine snocInd (VerI.zero (booksW_len s 3)) fun l x ih => ?_
 rw [wlN_snoc]
 exact ih.do_ (wlN_ok hs l).ok x
theorem wlN_mod {s : Nat} (hs : s < 256) : ∀ l : List Sm, l.length ≤ 100 → ModW (wlN s l) := by
 refine snocInd (fun _ => ModW.zero) fun l x ih hl => ?_
 rw [List.length_append, List.length_singleton] at hl
 rw [wlN_snoc]
 exact (ih (by omega)).do_ (wlN_ok hs l) (by omega) x
theorem wlN_rec {s : Nat} (hs : s < 256) : ∀ l : List Sm, RcW (wlN s l) l.length := by
 refine snocInd RcW.zero fun l x ih => ?_
 rw [wlN_snoc, List.length_append]
 exact ih.do_ (wlN_ok hs l) x
theorem doW_bks (S : WdS) (x : Sm) (ho : OkA S.a) : (doW S x).a.bks = S.a.bks ∧ (doW S x).a.pt = S.a.pt := by
 have hC : PutC (fun _ => True) (fun a => a.bks = S.a.bks ∧ a.pt = S.a.pt) := fun a n i e p _ h _ _ _ _ _ _ => by show (putA a n i e).bks = _ ∧ (putA a n i e).pt = _; rw [putA_bks.1, putA_bks.2]; exact h
 have h := resW_keep hC ho ⟨rfl, rfl⟩ x (fun _ _ _ _ _ => trivial) (fun _ _ => ⟨rfl, rfl⟩)
 unfold doW
 split
 ·exact h
 ·exact h
theorem wlN_bks {s : Nat} (hs : s < 256) : ∀ l : List Sm, (wlN s l).a.bks = booksW s 3 ∧ (wlN s l).a.pt = 123456789 := by
 refine snocInd ⟨rfl, rfl⟩ fun l x ih => ?_
 rw [wlN_snoc, (doW_bks _ x (wlN_ok hs l).ok).1, (doW_bks _ x (wlN_ok hs l).ok).2]
 exact ih
theorem take_snoc {α : Type} {l : List α} {i : Nat} {x : α} (h : l[i]? = some x) : l.take (i + 1) = l.take i ++ [x] := by rw [List.take_add_one, h]; rfl
def SmsAt (a : Option Addr) (l : List Sm) (W : World) : Prop := l ≠ [] → ∃ b off, a = some ⟨b, off, none⟩ ∧ b < W.heap.size ∧ ∀ (k : Nat) (x : Sm), l[k]? = some x → ∀ (j : Nat) (u : Value), (smC x)[j]? = some u → W.cell? ⟨b, off + k * 7 + j, none⟩ = some u
theorem SmsAt.step {a : Option Addr} {l : List Sm} {W w2 : World} (h : SmsAt a l W) (hb : Below W.heap.size W w2) : SmsAt a l w2 := fun hn => by
 obtain ⟨b, off, e1, e2, e3⟩ := h hn
 exact ⟨b, off, e1, Nat.lt_of_lt_of_le e2 hb.size, fun k x hk j u hj => cell_step (e3 k x hk j u hj) hb⟩
section
variable {H : Type} {enc : TypeId × Value → H} {W : World} {held : Bool}
theorem wf_u8m {n : Int} (h : (Lit.int .u8 n).wf = true) : ∃ k : Nat, n = (k : Int) ∧ k < 256 := by
 simp only [Lit.wf, Bool.and_eq_true, decide_eq_true_eq] at h
 have h1 : (0 : Int) ≤ n := h.1
 have h2 : n ≤ 255 := h.2
 exact ⟨n.toNat, by omega, by omega⟩
theorem wf_u16m {n : Int} (h : (Lit.int .u16 n).wf = true) : ∃ k : Nat, n = (k : Int) ∧ k < 65536 := by
 simp only [Lit.wf, Bool.and_eq_true, decide_eq_true_eq] at h
 have h1 : (0 : Int) ≤ n := h.1
 have h2 : n ≤ 65535 := h.2
 exact ⟨n.toNat, by omega, by omega⟩
set_option maxRecDepth 20000 in
theorem sml_cells {n : Nat} {cs : List Value} {x : DataW H × List MemPlace} (h : DataW.trod enc Tryz.prog W 0 (fun _ => true) held n 43 cs = some x) : ∃ y : Sm, cs = smC y ∧ SmOk y := by
 obtain ⟨xs, k, hk, hxy, hcl, hxl, hf⟩ := DataW.trod_struct Tryz.underlying43 h
 rw [show Tryz.prog.cellsOf 43 = 7 by kernel_rfl] at hcl
 match xs, hxl, cs, hcl with
 | [y0, y1, y2, y3, y4, y5, y6], _, [v0, v1, v2, v3, v4, v5, v6], _ =>
  have g0 := hf 0 _ rfl
  have g1 := hf 1 _ rfl
  have g2 := hf 2 _ rfl
  have g3 := hf 3 _ rfl
  have g4 := hf 4 _ rfl
  have g5 := hf 5 _ rfl
  have g6 := hf 6 _ rfl
  have k0 : Tryz.prog.cellsOf 5 = 1 := by kernel_rfl
  have k1 : Tryz.prog.cellsOf 41 = 1 := by kernel_rfl
  simp only [List.getElem_toArray, List.getElem_cons_zero, List.getElem_cons_succ] at g0 g1 g2 g3 g4 g5 g6
  rw [k0] at g0 g1 g2 g3 g4 g6
  rw [k1] at g5
  simp only [List.drop_zero, List.drop_succ_cons, List.take_succ_cons, List.take_zero, List.getElem?_cons_zero, List.getElem?_cons_succ] at g0 g1 g2 g3 g4 g5 g6
  obtain ⟨a0, b0, -, w0⟩ := DataW.trod_int Tryz.underlying5 g0
  obtain ⟨a1, b1, -, w1⟩ := DataW.trod_int Tryz.underlying5 g1
  obtain ⟨a2, b2, -, w2⟩ := DataW.trod_int Tryz.underlying5 g2
  obtain ⟨a3, b3, -, w3⟩ := DataW.trod_int Tryz.underlying5 g3
  obtain ⟨a4, b4, -, w4⟩ := DataW.trod_int Tryz.underlying5 g4
  obtain ⟨a5, b5, -, w5⟩ := DataW.trod_int Tryz.underlying41 g5
  obtain ⟨a6, b6, -, w6⟩ := DataW.trod_int Tryz.underlying5 g6
  simp only [List.cons.injEq, and_true] at b0 b1 b2 b3 b4 b5 b6
  obtain ⟨p0, rfl, q0⟩ := wf_u8m w0
  obtain ⟨p1, rfl, q1⟩ := wf_u8m w1
  obtain ⟨p2, rfl, q2⟩ := wf_u8m w2
  obtain ⟨p3, rfl, q3⟩ := wf_u8m w3
  obtain ⟨p4, rfl, q4⟩ := wf_u8m w4
  obtain ⟨p5, rfl, q5⟩ := wf_u16m w5
  obtain ⟨p6, rfl, q6⟩ := wf_u8m w6
  subst b0 b1 b2 b3 b4 b5 b6
  exact ⟨⟨p0, p1, p2, p3, p4, p5, p6⟩, rfl, ⟨q0, q1, q2, q3, q4, q5, q6⟩⟩
theorem smalls_open {n : Nat} {v : Value} {x : DataW H × List MemPlace} (h : DataW.trod enc Tryz.prog W 0 (fun _ => true) held n 36 [v] = some x) :
  ∃ (a : Option Addr) (c : Nat) (l : List Sm), v = .slice a l.length c ∧ l.length ≤ c ∧ c ≤ maxLen ∧ (∀ q ∈ l, SmOk q) ∧ SmsAt a l W := by
 haveI : Inhabited Sm := ⟨⟨0, 0, 0, 0, 0, 0, 0⟩⟩
 exact rows_open (cells := smC) (Ok := SmOk) (sz := 7) Tryz.underlying36 (by kernel_rfl) (by decide) (fun h => sml_cells h) h
end
end Go.Proofs.YtmpilgkfbibhlaaGreatDoor
