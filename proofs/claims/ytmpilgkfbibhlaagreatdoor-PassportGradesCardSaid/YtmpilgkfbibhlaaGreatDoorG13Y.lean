/-
 The reference's big: the bytes of a number.
-/
import Derived.Test.YtmpilgkfbibhlaaGreatDoorG12Y
import Derived.Test.YtmpilgkfbibhlaaGreatDoorG1Y
import Derived.Test.YtmpilgkfbibhlaaGreatDoorG6Y
import Derived.Test.YtmpilgkfbibhlaaGreatDoorG10Y
import Derived.Test.YtmpilgkfbibhlaaGreatDoorG11Y
import Derived.Test.YtmpilgkfbibhlaaGreatDoorG4Y
import Derived.Test.YtmpilgkfbibhlaaGreatDoorG5Y
import Derived.Test.YtmpilgkfbibhlaaGreatDoorG0Y
import Derived.Test.YtmpilgkfbibhlaaGreatDoorG8Y
import Derived.Shelf.SlicesE.DeleteFunc
set_option linter.unusedSimpArgs false
set_option linter.unusedVariables false
namespace Go.Proofs.YtmpilgkfbibhlaaGreatDoor
open Go.RowKit
def bigL (n m : Nat) : List Nat := (List.range m).map fun j => n / 256 ^ (m - 1 - j) % 256
theorem bigL_len (n m : Nat) : (bigL n m).length = m := by simp [bigL]
end Go.Proofs.YtmpilgkfbibhlaaGreatDoor
namespace Go.Proofs.YtmpilgkfbibhlaaGreatDoor
open Go
abbrev Ent := Evt × Int × Int × Nat × Nat
abbrev Bk := Nat × List Nat
def P31 : Nat := 2147483647
def okX : Evt → Bool
 | (k, t, a, b, nm, ot) => okE k t a b nm ot
def bytX : Evt → List Nat
 | (k, t, a, b, nm, ot) => bytesE (evL k t a b nm ot)
def msgE (head : Nat) (e : Evt) (by_ : Nat) : List Nat := bigL head 4 ++ bytX e ++ [by_ % 256]
def headD (pt : Nat) (m : List Nat) : Nat := dig P31 3 pt m
def beginE (pt : Nat) (name : ByteArray) : Nat := headD pt (name.data.toList.map UInt8.toNat)
def nextE (pt : Nat) (bks : List Bk) (head : Nat) (e : Evt) (by_ pad : Nat) : Ent :=
 (e, by_, pad, headD pt (msgE head e by_), (headD (bks.getD by_ (0, [])).1 (msgE head e by_) + (bks.getD by_ (0, [])).2.getD pad 0) % P31)
def headOf (pt : Nat) (name : ByteArray) (pre : List Ent) : Nat := match pre.getLast? with
 | none => beginE pt name
 | some y => y.2.2.2.1
def pairIn (pre : List Ent) (b p : Int) : Bool := pre.any fun y => y.2.1 == b && y.2.2.1 == p
def inBook (bks : List Bk) (b p : Int) : Bool := decide (0 ≤ b ∧ b < bks.length ∧ 0 ≤ p ∧ p < (bks.getD b.toNat (0, [])).2.length)
def rightB (pt : Nat) (bks : List Bk) (name : ByteArray) (pre : List Ent) (x : Ent) : Bool :=
 okX x.1 && canR name (pre.map (·.1)) x.1 && inBook bks x.2.1 x.2.2.1 && !(pairIn pre x.2.1 x.2.2.1) && decide (nextE pt bks (headOf pt name pre) x.1 x.2.1.toNat x.2.2.1.toNat = x)
def AllR (pt : Nat) (bks : List Bk) (name : ByteArray) (l : List Ent) (n : Nat) : Prop := ∀ i, i < n → ∃ x, l[i]? = some x ∧ rightB pt bks name (l.take i) x = true
def verN (pt : Nat) (bks : List Bk) (name : ByteArray) : List Ent → List Ent → Nat
 | pre, [] => pre.length
 | pre, x :: r => if rightB pt bks name pre x = true then verN pt bks name (pre ++ [x]) r else pre.length
theorem verN_stop {pt : Nat} {bks : List Bk} {name : ByteArray} {pre r : List Ent} {x : Ent} (h : rightB pt bks name pre x = false) : verN pt bks name pre (x :: r) = pre.length := by
 unfold verN; rw [h]; rfl
theorem verN_go {pt : Nat} {bks : List Bk} {name : ByteArray} {pre r : List Ent} {x : Ent} (h : rightB pt bks name pre x = true) : verN pt bks name pre (x :: r) = verN pt bks name (pre ++ [x]) r := by
 conv => lhs; unfold verN
 rw [h]; rfl
def badBk : Bk → Bool
 | (p, ps) => decide (p < 1) || decide (P31 ≤ p) || decide (5000 < ps.length) || ps.any fun n => decide (P31 ≤ n)
def secR (pt : Nat) (bks : List Bk) : Int := if pt < 1 ∨ P31 ≤ pt then 3 else if bks.length < 1 ∨ 8 < bks.length ∨ bks.any badBk = true then 2 else 0
def evsOf (l : List Ent) : List Evt := l.map (·.1)
end Go.Proofs.YtmpilgkfbibhlaaGreatDoor
namespace Go.Proofs.YtmpilgkfbibhlaaGreatDoor
open Go.RowKit Mr
theorem made_b {t a b : Int} {nm ot : ByteArray} (h : okE 1 t a b nm ot = true) : 0 ≤ b ∧ b ≤ 32 := by
 unfold okE chkE chkB at h
 simp at h
 omega
theorem add_anyN {T : TypeId} {B off : Nat} {name : ByteArray} {x : LifeS} {vm vo : Value} {w : World} (hT : T ≠ 9) (h : LifeAt T B off name x vm vo w) (hB : LifeB x) (hl : x.ms.length ≤ 100000 ∧ x.os.length ≤ 100000) (hnm : name.size ≤ 1000)
  (h0 : x.n = 0 → vm = .slice none 0 0 ∧ x.ms = []) (e : Evt) (hok : okX e = true) (hc : canP name x e = true) :
  Calls Tryz.prog 46 #[.pointer (some ⟨B, off, none⟩), evX e] w fun en w' => en = .returned (.tuple #[]) ∧ ∃ vm' vo', LifeF w T B off name (x.add name e) vm vo vm' vo' w' ∧ OnlyB T B off 18 w w' := by
 obtain ⟨k, t, a, b, nm, ot⟩ := e
 change okE k t a b nm ot = true at hok
 obtain ⟨he, -, -⟩ := okE_ev hok
 have hk := he.k
 have ha := he.a
 have hb := he.b
 clear he
 change 1 ≤ k ∧ k ≤ 9 at hk
 change 0 ≤ a ∧ a ≤ 1099511627776 at ha
 change 0 ≤ b ∧ b ≤ 1099511627776 at hb
 have hk9 : k = 1 ∨ k = 2 ∨ k = 3 ∨ k = 4 ∨ k = 5 ∨ k = 6 ∨ k = 7 ∨ k = 8 ∨ k = 9 := by omega
 unfold canP at hc
 rcases hk9 with rfl | rfl | rfl | rfl | rfl | rfl | rfl | rfl | rfl
 ·by_cases hn : x.n = 0
  ·obtain ⟨e1, e2⟩ := h0 hn
   have hb2 := made_b hok
   exact add1_any hT h hB t a b nm ot hb2 hnm e1 e2
  ·exfalso
   simp [hn, ruleB] at hc
 ·exact add2_any hT h hB t a b nm ot ha hb
 ·exact add3_any hT h hB t a b nm ot
 ·exact add4_any hT h hB t a b nm ot
 ·exact add5_any hT h hB t a b nm ot hl
 ·refine add6_any hT h hB t a b nm ot hl ?_
  by_cases hn : x.n = 0
  ·simp [hn] at hc
  ·simp [hn, ruleB] at hc
   exact hasT_ne hc.2.2.1
 ·exact add7_any hT h hB t a b nm ot hl
 ·refine add8_any hT h hB t a b nm ot hl ?_
  by_cases hn : x.n = 0
  ·simp [hn] at hc
  ·simp [hn, ruleB] at hc
   exact hasT_ne hc.2.2
 ·exact add9_any hT h hB t a b nm ot
theorem add_any {T : TypeId} {B off : Nat} {name : ByteArray} {x : LifeS} {vm vo : Value} {w : World} (hT : T ≠ 9) (h : LifeAt T B off name x vm vo w) (hB : LifeB x) (hl : x.ms.length ≤ 100000 ∧ x.os.length ≤ 100000) (hnm : name.size ≤ 1000)
  (h0 : x.n = 0 → vm = .slice none 0 0 ∧ x.ms = []) (e : Evt) (hok : okX e = true) (hc : canP name x e = true) :
  Calls Tryz.prog 46 #[.pointer (some ⟨B, off, none⟩), evX e] w fun en w' => en = .returned (.tuple #[]) ∧ ∃ vm' vo', LifeAt T B off name (x.add name e) vm' vo' w' ∧ OnlyB T B off 18 w w' :=
 (add_anyN hT h hB hl hnm h0 e hok hc).mono fun en w' r => ⟨r.1, by obtain ⟨vm', vo', q1, q2⟩ := r.2; exact ⟨vm', vo', q1.l, q2⟩⟩
end Go.Proofs.YtmpilgkfbibhlaaGreatDoor
namespace Go.Proofs.YtmpilgkfbibhlaaGreatDoor
open Go.RowKit
def PadV (v : Value) (ns : List Nat) (W : World) : Prop := ∃ a c, v = .slice a ns.length c ∧ (ns ≠ [] → ∃ b off, a = some ⟨b, off, none⟩ ∧ b < W.heap.size ∧ ∀ (k n : Nat), ns[k]? = some n → W.cell? ⟨b, off + k, none⟩ = some (.int .u64 (n : Int)))
theorem PadV.step {v : Value} {ns : List Nat} {W w2 : World} (h : PadV v ns W) (hb : Below W.heap.size W w2) : PadV v ns w2 := by
 obtain ⟨a, c, h1, h2⟩ := h
 refine ⟨a, c, h1, fun hn => ?_⟩
 obtain ⟨b, off, e1, e2, e3⟩ := h2 hn
 exact ⟨b, off, e1, Nat.lt_of_lt_of_le e2 hb.size, fun k n hk => cell_step (e3 k n hk) hb⟩
def BksAt (a : Option Addr) (bks : List Bk) (W : World) : Prop := bks ≠ [] → ∃ b off, a = some ⟨b, off, none⟩ ∧ b < W.heap.size ∧ ∀ (k : Nat) (bk : Bk), bks[k]? = some bk → W.cell? ⟨b, off + k * 2, none⟩ = some (.int .u64 (bk.1 : Int)) ∧ ∃ vp, W.cell? ⟨b, off + k * 2 + 1, none⟩ = some vp ∧ PadV vp bk.2 W
theorem BksAt.step {a : Option Addr} {bks : List Bk} {W w2 : World} (h : BksAt a bks W) (hb : Below W.heap.size W w2) : BksAt a bks w2 := by
 intro hn
 obtain ⟨b, off, e1, e2, e3⟩ := h hn
 refine ⟨b, off, e1, Nat.lt_of_lt_of_le e2 hb.size, fun k bk hk => ?_⟩
 obtain ⟨q1, vp, q2, q3⟩ := e3 k bk hk
 exact ⟨cell_step q1 hb, vp, cell_step q2 hb, q3.step hb⟩
theorem pred94_any (x B : Nat) (W : World) (hc : W.cell? ⟨B, 0, none⟩ = some (.int .u64 2147483647)) :
  Calls Tryz.prog 94 #[.int .u64 (x : Int), .pointer (some ⟨B, 0, none⟩)] W fun e w' => e = .returned (.bool (decide (P31 ≤ x))) ∧ ∃ q, w' = W.drewN q := by
 have hd : decide (P31 ≤ x) = decide ((x : Int) ≥ 2147483647) := by rw [decide_eq_decide]; unfold P31; omega
 rw [hd]
 go_enter Tryz.func94, Tryz.ntmps94
 go_wp2_with fail
 go_ret
 exact ⟨rfl, 0, rfl⟩
theorem padsBad_any {v : Value} {ns : List Nat} {w : World} (B : Nat) (h : PadV v ns w) (hl : ns.length ≤ 1000000) (hB : B < w.heap.size) (hc : w.cell? ⟨B, 0, none⟩ = some (.int .u64 2147483647)) :
  Calls Tryz.prog 93 #[v, .func (.func 94) #[] #[.pointer (some ⟨B, 0, none⟩)]] w fun e w' => e = .returned (.bool (ns.any fun n => decide (P31 ≤ n))) ∧ Below w.heap.size w w' := by
 have eg : ∀ args w, (callFunc 94 args).run Tryz.prog w = .ok (.enter 94 args) w := enters_of Tryz.func94 (by kernel_rfl) rfl
 obtain ⟨a, c, rfl, h2⟩ := h
 by_cases hn : ns = []
 ·subst hn
  exact (AnyE.slices_ContainsFunc_empty laysSlH8_f93 a c _ w).mono fun e w' q => ⟨q.1, by rw [q.2]; exact Below.refl _ _⟩
 ·obtain ⟨b, off, rfl, -, h3⟩ := h2 hn
  have h4 := AnyE.slices_ContainsFunc laysSlH8_f93 (fun n : Nat => Value.int .u64 (n : Int)) (fun n => decide (P31 ≤ n)) 94 #[.pointer (some ⟨B, 0, none⟩)] eg b off ns.length c ns w
   (fun W x hW => pred94_any x B W ((hW.cell (p := ⟨B, 0, none⟩) hB).trans hc)) (Nat.le_refl _) (by omega) (fun j hj => by rw [h3 j _ (List.getElem?_eq_getElem hj)]; rw [getElem!_pos ns j hj])
  rw [List.take_of_length_le (Nat.le_refl _)] at h4
  exact h4.mono fun e w' q => ⟨q.1, by obtain ⟨n, e⟩ := q.2; rw [e]; exact bDrewN (Below.refl _ _)⟩
set_option maxHeartbeats 2000000 in
set_option maxRecDepth 20000 in
theorem badBk_any (bk : Bk) (vp : Value) (B : Nat) (w : World) (h : PadV vp bk.2 w) (hl : bk.2.length ≤ 1000000) (hB : B < w.heap.size) (hc : w.cell? ⟨B, 0, none⟩ = some (.int .u64 2147483647)) :
  Calls Tryz.prog 92 #[.agg #[.int .u64 (bk.1 : Int), vp], .pointer (some ⟨B, 0, none⟩)] w fun e w' => e = .returned (.bool (badBk bk)) ∧ Below w.heap.size w w' := by
 obtain ⟨p, ps⟩ := bk
 dsimp only at h hl ⊢
 rw [show badBk (p, ps) = (decide (p < 1) || decide (P31 ≤ p) || decide (5000 < ps.length) || ps.any fun n => decide (P31 ≤ n)) from rfl]
 have CX := Lib.hid (padsBad_any B (h.step (Mr.bAl (o := .cells #[.int .u64 (p : Int), vp] 85))) hl (by simp; omega) (by rw [← hc]; exact Mr.bAl.cell (p := ⟨B, 0, none⟩) hB))
 obtain ⟨a, c, rfl, -⟩ := h
 generalize (ps.any fun n => decide (P31 ≤ n)) = r at *
 by_cases c1 : p < 1
 ·rw [decide_eq_true c1]
  have d1 : (p : Int) < 1 := by omega
  clear c1 hl CX
  go_enter Tryz.func92, Tryz.ntmps92
  go_wp2_with fail
  exact bodyPost_ret (v := .bool true) (by simp only [results, Tryz.results92]; go_simp) rfl ⟨rfl, (by repeat' (first | exact Below.refl _ _ | assumption | apply bDrewN | apply bDrew | apply bAlloc | (refine bSet ?_ ?_ _) | (refine bStep ?_ (by assumption)) | omega | (simp <;> omega)))⟩
 ·rw [decide_eq_false c1]
  have d1 : ¬ (p : Int) < 1 := by omega
  by_cases c2 : P31 ≤ p
  ·rw [decide_eq_true c2]
   have d2 : (2147483647 : Int) ≤ p := by unfold P31 at c2; omega
   clear c1 c2 hl CX
   go_enter Tryz.func92, Tryz.ntmps92
   go_wp2_with fail
   exact bodyPost_ret (v := .bool true) (by simp only [results, Tryz.results92]; go_simp) rfl ⟨rfl, (by repeat' (first | exact Below.refl _ _ | assumption | apply bDrewN | apply bDrew | apply bAlloc | (refine bSet ?_ ?_ _) | (refine bStep ?_ (by assumption)) | omega | (simp <;> omega)))⟩
  ·rw [decide_eq_false c2]
   have d2 : ¬ (2147483647 : Int) ≤ p := by unfold P31 at c2; omega
   by_cases c3 : 5000 < ps.length
   ·rw [decide_eq_true c3]
    have d3 : (5000 : Int) < ps.length := by omega
    clear c1 c2 c3 hl CX
    go_enter Tryz.func92, Tryz.ntmps92
    go_wp2_with fail
    exact bodyPost_ret (v := .bool true) (by simp only [results, Tryz.results92]; go_simp) rfl ⟨rfl, (by repeat' (first | exact Below.refl _ _ | assumption | apply bDrewN | apply bDrew | apply bAlloc | (refine bSet ?_ ?_ _) | (refine bStep ?_ (by assumption)) | omega | (simp <;> omega)))⟩
   ·rw [decide_eq_false c3]
    have d3 : ¬ (5000 : Int) < ps.length := by omega
    clear c1 c2 c3 hl
    go_enter Tryz.func92, Tryz.ntmps92
    go_wp2_with (go_at_call 93; refine CX.out.mono ?_; rintro e w1 ⟨rfl, hb1⟩)
    exact bodyPost_ret (v := .bool r) (by simp only [results, Tryz.results92]; go_simp) rfl ⟨by simp, bStep Mr.bAl hb1⟩
end Go.Proofs.YtmpilgkfbibhlaaGreatDoor
