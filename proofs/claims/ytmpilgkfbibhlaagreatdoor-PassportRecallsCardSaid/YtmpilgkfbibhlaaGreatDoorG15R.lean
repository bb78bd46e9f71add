/-
 A drawn region walked in the text's order, one operation at a time, with what follows under lock.
-/
import Derived.Test.YtmpilgkfbibhlaaGreatDoorG5R
import Derived.Test.YtmpilgkfbibhlaaGreatDoorG11R
import Derived.Deep.MidRow
import Derived.Deep.Cut
import Derived.Test.YtmpilgkfbibhlaaGreatDoorG0R
import Derived.Test.YtmpilgkfbibhlaaGreatDoorG14R
set_option linter.unusedSimpArgs false
set_option linter.unusedVariables false
namespace Go.Proofs.YtmpilgkfbibhlaaGreatDoor
open Go.RowKit
structure WQ (P : Program) (ops : Array Oper) (C : World → Prop) (Q : Act → Prop) (l : List Oper) (a : Act) : Prop where
 out : wpQuiet P ops C Q l a
section
variable {P : Program} {ops : Array Oper} {C : World → Prop} {Q : Act → Prop} {a : Act} {o : Oper} {rest : List Oper} {j d : Nat} {want b : Bool} {v : Value}
theorem WQ.nil (h : Q a) : WQ P ops C Q [] a := ⟨wpQuiet_nil h⟩
theorem WQ.skip (hg : o.guard = some (j, want)) (hd : (ops[j]?).bind (·.dst) = some d) (hv : a.tmps[d]? = some (.bool b)) (hb : (b == want) = false) (h : WQ P ops C Q rest (a.put o.dst undef)) : WQ P ops C Q (o :: rest) a := ⟨by
 have hw : Region.wanted o (yielded ops a.tmps) = false := by
  unfold Region.wanted yielded
  rw [hg]
  dsimp only
  rw [hd, Option.bind_some, hv]
  cases b <;> cases want <;> first | rfl | cases hb
 unfold wpQuiet
 rw [hw]
 exact h.out⟩
theorem WQ.val (hg : o.guard = none) (v : Value) (hv : ∀ w, C w → o.quietAt P a C w v) (h : WQ P ops C Q rest (a.put o.dst v)) : WQ P ops C Q (o :: rest) a := ⟨by
 have hw : Region.wanted o (yielded ops a.tmps) = true := by unfold Region.wanted; rw [hg]
 unfold wpQuiet
 rw [hw]
 exact ⟨v, hv, h.out⟩⟩
theorem WQ.valg (hg : o.guard = some (j, want)) (hd : (ops[j]?).bind (·.dst) = some d) (hv : a.tmps[d]? = some (.bool want)) (v : Value) (hq : ∀ w, C w → o.quietAt P a C w v) (h : WQ P ops C Q rest (a.put o.dst v)) : WQ P ops C Q (o :: rest) a := ⟨by
 have hw : Region.wanted o (yielded ops a.tmps) = true := by
  unfold Region.wanted yielded
  rw [hg]
  dsimp only
  rw [hd, Option.bind_some, hv]
  cases want <;> rfl
 unfold wpQuiet
 rw [hw]
 exact ⟨v, hq, h.out⟩⟩
end
theorem wp_region_lock {P : Program} {id : Nat} {Q : Exit → Act → World → Prop} {a : Act} {w : World} {l : List Oper} (hm : P.follows .mixedOrders = true) (hB : Region.lexB .any l.toArray = true)
  (h : WQ P l.toArray (fun W => ∃ s : WStep w, W = s.1) (fun a' => ∀ w', (∃ s : WStep w, w' = s.1) → Q .normal a' w') l a) : (Code.region id l.toArray true).wp P Q a w := wp_region_step hm hB h.out
theorem WQ.fin {P : Program} {ops : Array Oper} {C : World → Prop} {w : World} {Q : Exit → Act → World → Prop} {a : Act} (h : ∀ W, Below w.heap.size w W → Q .normal a W) : WQ P ops C (fun a' => ∀ w', (∃ s : WStep w, w' = s.1) → Q .normal a' w') [] a :=
 WQ.nil fun w' hw => by obtain ⟨s, rfl⟩ := hw; exact h s.1 s.2
end Go.Proofs.YtmpilgkfbibhlaaGreatDoor
namespace Go.Proofs.YtmpilgkfbibhlaaGreatDoor
open Sx Go.RowKit
def formL : List Value := [(.string ⟨#[]⟩), (.int .i64 0), (.int .i64 0), (.int .i64 0), .nilFunc, .nilFunc, (.string ⟨#[109, 97, 100, 101]⟩), (.int .i64 1), (.int .i64 4294967296), (.int .i64 32), (.func (.func 39) #[] #[]), (.func (.func 91) #[] #[]), (.string ⟨#[117, 115, 101]⟩), (.int .i64 0), (.int .i64 1099511627776), (.int .i64 1099511627776), (.func (.func 91) #[] #[]), (.func (.func 91) #[] #[]), (.string ⟨#[116, 101, 115, 116]⟩), (.int .i64 0), (.int .i64 4294967296), (.int .i64 0), (.func (.func 91) #[] #[]), (.func (.func 91) #[] #[]), (.string ⟨#[102, 97, 117, 108, 116]⟩), (.int .i64 1), (.int .i64 12), (.int .i64 0), (.func (.func 91) #[] #[]), (.func (.func 91) #[] #[]), (.string ⟨#[112, 117, 116]⟩), (.int .i64 0), (.int .i64 0), (.int .i64 0), (.func (.func 126) #[] #[]), (.func (.func 39) #[] #[]), (.string ⟨#[116, 97, 107, 101]⟩), (.int .i64 0), (.int .i64 0), (.int .i64 0), (.func (.func 126) #[] #[]), (.func (.func 39) #[] #[]), (.string ⟨#[114, 101, 99, 97, 108, 108]⟩), (.int .i64 0), (.int .i64 0), (.int .i64 0), (.func (.func 39) #[] #[]), (.func (.func 91) #[] #[]), (.string ⟨#[99, 108, 101, 97, 114]⟩), (.int .i64 0), (.int .i64 0), (.int .i64 0), (.func (.func 39) #[] #[]), (.func (.func 91) #[] #[]), (.string ⟨#[115, 99, 114, 97, 112]⟩), (.int .i64 0), (.int .i64 0), (.int .i64 0), (.func (.func 91) #[] #[]), (.func (.func 91) #[] #[])]
theorem formL_one : formL.toArray.all (·.oneCell') = true := by kernel_rfl
theorem formL_info : (Tryz.prog.info? 197).map (·.size) = some formL.toArray.size := by kernel_rfl
theorem there_new {w : World} {cs : Array Value} {T : TypeId} {n : Nat} (h : cs.size = n) : (w.alloc (.cells cs T)).there w.heap.size 0 n := fun j hj => by
 rw [Nat.zero_add]
 have hb := blk_new w (.cells cs T)
 have hv : cs[j]? = some (cs[j]'(by omega)) := Array.getElem?_eq_getElem (by omega)
 exact ⟨by rw [blk_cell hb hv]; rfl, blk_free hb⟩
theorem bSetCells' {N b : Nat} {w : World} : ∀ (vs : List Value) (o : Nat) {W : World}, Below N w W → N ≤ b → Below N w (W.setCells b o vs)
 | [], _, _, h, _ => h
 | v :: vs, o, _, h, hb => bSetCells' vs (o + 1) (h.setCell (p := ⟨b, o, none⟩) hb v) hb
theorem setCells_size {b : Nat} : ∀ (vs : List Value) (o : Nat) (W : World), (W.setCells b o vs).heap.size = W.heap.size
 | [], _, _ => rfl
 | v :: vs, o, W => by
  show ((W.setCell ⟨b, o, none⟩ v).setCells b (o + 1) vs).heap.size = _
  rw [setCells_size vs (o + 1)]
  simp
def FormAt (B : Nat) (W : World) : Prop := B < W.heap.size ∧ ∀ (j : Nat) (u : Value), formL[j]? = some u → W.cell? ⟨B, j, none⟩ = some u
theorem FormAt.new {w : World} {cs : Array Value} {T : TypeId} (h : cs.size = 60) : FormAt w.heap.size ((w.alloc (.cells cs T)).setCells w.heap.size 0 formL) := by
 refine ⟨by rw [setCells_size]; simp, fun j u hj => ?_⟩
 have := World.rangeAt_setCells_same (w.alloc (.cells cs T)) w.heap.size 0 formL (there_new h) j u hj
 rwa [Nat.zero_add] at this
theorem FormAt.step {B : Nat} {W w2 : World} (h : FormAt B W) (hb : Below W.heap.size W w2) : FormAt B w2 := ⟨Nat.lt_of_lt_of_le h.1 hb.size, fun j u hj => cell_step (h.2 j u hj) hb⟩
set_option maxHeartbeats 4000000 in
set_option maxRecDepth 20000 in
theorem formOf_at (k : Nat) (hk : 1 ≤ k ∧ k ≤ 9) (w : World) : Calls Tryz.prog 87 #[.int .i64 (k : Int)] w fun en w' => ∃ B, en = .returned (.pointer (some ⟨B, k * 6, none⟩)) ∧ FormAt B w' ∧ Below w.heap.size w w' := by
 have h1 : ¬ (k : Int) < 1 := by omega
 have h2 : ¬ (k : Int) ≥ 10 := by omega
 have h3 : (0 : Int) ≤ k := by omega
 have h4 : (k : Int) < 10 := by omega
 go_enter Tryz.func87, Tryz.ntmps87
 go_upto_region 2 with (refine wpList_store_mid rfl 197 (.tmp 3) (.tmp 13) rfl w.heap.size 0 formL.toArray rfl rfl (there_new rfl) formL_info formL_one ?_)
 have hF : FormAt w.heap.size ((w.alloc (.cells #[.string ⟨#[]⟩, .int .i64 0, .int .i64 0, .int .i64 0, .nilFunc, .nilFunc, .string ⟨#[]⟩, .int .i64 0, .int .i64 0, .int .i64 0, .nilFunc, .nilFunc, .string ⟨#[]⟩, .int .i64 0, .int .i64 0, .int .i64 0, .nilFunc, .nilFunc, .string ⟨#[]⟩, .int .i64 0, .int .i64 0, .int .i64 0, .nilFunc, .nilFunc, .string ⟨#[]⟩, .int .i64 0, .int .i64 0, .int .i64 0, .nilFunc, .nilFunc, .string ⟨#[]⟩, .int .i64 0, .int .i64 0, .int .i64 0, .nilFunc, .nilFunc, .string ⟨#[]⟩, .int .i64 0, .int .i64 0, .int .i64 0, .nilFunc, .nilFunc, .string ⟨#[]⟩, .int .i64 0, .int .i64 0, .int .i64 0, .nilFunc, .nilFunc, .string ⟨#[]⟩, .int .i64 0, .int .i64 0, .int .i64 0, .nilFunc, .nilFunc, .string ⟨#[]⟩, .int .i64 0, .int .i64 0, .int .i64 0, .nilFunc, .nilFunc] 197)).setCells w.heap.size 0 formL) := FormAt.new rfl
 have hB : Below w.heap.size w ((w.alloc (.cells #[.string ⟨#[]⟩, .int .i64 0, .int .i64 0, .int .i64 0, .nilFunc, .nilFunc, .string ⟨#[]⟩, .int .i64 0, .int .i64 0, .int .i64 0, .nilFunc, .nilFunc, .string ⟨#[]⟩, .int .i64 0, .int .i64 0, .int .i64 0, .nilFunc, .nilFunc, .string ⟨#[]⟩, .int .i64 0, .int .i64 0, .int .i64 0, .nilFunc, .nilFunc, .string ⟨#[]⟩, .int .i64 0, .int .i64 0, .int .i64 0, .nilFunc, .nilFunc, .string ⟨#[]⟩, .int .i64 0, .int .i64 0, .int .i64 0, .nilFunc, .nilFunc, .string ⟨#[]⟩, .int .i64 0, .int .i64 0, .int .i64 0, .nilFunc, .nilFunc, .string ⟨#[]⟩, .int .i64 0, .int .i64 0, .int .i64 0, .nilFunc, .nilFunc, .string ⟨#[]⟩, .int .i64 0, .int .i64 0, .int .i64 0, .nilFunc, .nilFunc, .string ⟨#[]⟩, .int .i64 0, .int .i64 0, .int .i64 0, .nilFunc, .nilFunc] 197)).setCells w.heap.size 0 formL) := bSetCells' formL 0 (bAlloc (Below.refl _ _) _) (Nat.le_refl _)
 generalize World.setCells (w.alloc (.cells #[.string ⟨#[]⟩, .int .i64 0, .int .i64 0, .int .i64 0, .nilFunc, .nilFunc, .string ⟨#[]⟩, .int .i64 0, .int .i64 0, .int .i64 0, .nilFunc, .nilFunc, .string ⟨#[]⟩, .int .i64 0, .int .i64 0, .int .i64 0, .nilFunc, .nilFunc, .string ⟨#[]⟩, .int .i64 0, .int .i64 0, .int .i64 0, .nilFunc, .nilFunc, .string ⟨#[]⟩, .int .i64 0, .int .i64 0, .int .i64 0, .nilFunc, .nilFunc, .string ⟨#[]⟩, .int .i64 0, .int .i64 0, .int .i64 0, .nilFunc, .nilFunc, .string ⟨#[]⟩, .int .i64 0, .int .i64 0, .int .i64 0, .nilFunc, .nilFunc, .string ⟨#[]⟩, .int .i64 0, .int .i64 0, .int .i64 0, .nilFunc, .nilFunc, .string ⟨#[]⟩, .int .i64 0, .int .i64 0, .int .i64 0, .nilFunc, .nilFunc, .string ⟨#[]⟩, .int .i64 0, .int .i64 0, .int .i64 0, .nilFunc, .nilFunc] 197)) w.heap.size 0 formL = W1 at *
 go_wp2_with fail
 exact bodyPost_ret (v := .pointer (some ⟨w.heap.size, k * 6, none⟩)) (by simp only [results, Tryz.results87]; go_simp) rfl ⟨_, rfl, hF, hB⟩
set_option maxHeartbeats 4000000 in
set_option maxRecDepth 20000 in
theorem formOf_no (k : Int) (hk : ¬ (1 ≤ k ∧ k ≤ 9)) (w : World) : Calls Tryz.prog 87 #[.int .i64 k] w fun en w' => en = .returned (.pointer none) ∧ Below w.heap.size w w' := by
 have hc : k < 1 ∨ (¬ k < 1 ∧ k ≥ 10) := by omega
 clear hk
 rcases hc with h1 | ⟨h1, h2⟩
 all_goals
  go_enter Tryz.func87, Tryz.ntmps87
  go_upto_region 2 with (refine wpList_store_mid rfl 197 (.tmp 3) (.tmp 13) rfl w.heap.size 0 formL.toArray rfl rfl (there_new rfl) formL_info formL_one ?_)
  have hB : Below w.heap.size w ((w.alloc (.cells #[.string ⟨#[]⟩, .int .i64 0, .int .i64 0, .int .i64 0, .nilFunc, .nilFunc, .string ⟨#[]⟩, .int .i64 0, .int .i64 0, .int .i64 0, .nilFunc, .nilFunc, .string ⟨#[]⟩, .int .i64 0, .int .i64 0, .int .i64 0, .nilFunc, .nilFunc, .string ⟨#[]⟩, .int .i64 0, .int .i64 0, .int .i64 0, .nilFunc, .nilFunc, .string ⟨#[]⟩, .int .i64 0, .int .i64 0, .int .i64 0, .nilFunc, .nilFunc, .string ⟨#[]⟩, .int .i64 0, .int .i64 0, .int .i64 0, .nilFunc, .nilFunc, .string ⟨#[]⟩, .int .i64 0, .int .i64 0, .int .i64 0, .nilFunc, .nilFunc, .string ⟨#[]⟩, .int .i64 0, .int .i64 0, .int .i64 0, .nilFunc, .nilFunc, .string ⟨#[]⟩, .int .i64 0, .int .i64 0, .int .i64 0, .nilFunc, .nilFunc, .string ⟨#[]⟩, .int .i64 0, .int .i64 0, .int .i64 0, .nilFunc, .nilFunc] 197)).setCells w.heap.size 0 formL) := bSetCells' formL 0 (bAlloc (Below.refl _ _) _) (Nat.le_refl _)
  generalize World.setCells (w.alloc (.cells #[.string ⟨#[]⟩, .int .i64 0, .int .i64 0, .int .i64 0, .nilFunc, .nilFunc, .string ⟨#[]⟩, .int .i64 0, .int .i64 0, .int .i64 0, .nilFunc, .nilFunc, .string ⟨#[]⟩, .int .i64 0, .int .i64 0, .int .i64 0, .nilFunc, .nilFunc, .string ⟨#[]⟩, .int .i64 0, .int .i64 0, .int .i64 0, .nilFunc, .nilFunc, .string ⟨#[]⟩, .int .i64 0, .int .i64 0, .int .i64 0, .nilFunc, .nilFunc, .string ⟨#[]⟩, .int .i64 0, .int .i64 0, .int .i64 0, .nilFunc, .nilFunc, .string ⟨#[]⟩, .int .i64 0, .int .i64 0, .int .i64 0, .nilFunc, .nilFunc, .string ⟨#[]⟩, .int .i64 0, .int .i64 0, .int .i64 0, .nilFunc, .nilFunc, .string ⟨#[]⟩, .int .i64 0, .int .i64 0, .int .i64 0, .nilFunc, .nilFunc, .string ⟨#[]⟩, .int .i64 0, .int .i64 0, .int .i64 0, .nilFunc, .nilFunc] 197)) w.heap.size 0 formL = W1 at *
  go_wp2_with fail
  exact bodyPost_ret (v := .pointer none) (by simp only [results, Tryz.results87]; go_simp) rfl ⟨rfl, hB⟩
end Go.Proofs.YtmpilgkfbibhlaaGreatDoor
namespace Go.Proofs.YtmpilgkfbibhlaaGreatDoor
open Sx Go.RowKit
def tmB (t : Int) : Bool := bif decide (t ≥ 0) then decide (t ≤ 1099511627776) else false
set_option maxHeartbeats 1000000 in
theorem isTime_b (t : Int) (w : World) : Calls Tryz.prog 60 #[.int .i64 t] w fun en w' => en = .returned (.bool (tmB t)) ∧ Below w.heap.size w w' := by
 have hw : (tmB t = false ∧ ¬ t ≥ 0) ∨ (t ≥ 0 ∧ tmB t = false ∧ ¬ t ≤ 1099511627776) ∨ (t ≥ 0 ∧ t ≤ 1099511627776 ∧ tmB t = true) := by
  unfold tmB
  by_cases h0 : t ≥ 0
  ·by_cases h1 : t ≤ 1099511627776
   ·exact Or.inr (Or.inr ⟨h0, h1, by rw [decide_eq_true h0, decide_eq_true h1]; rfl⟩)
   ·exact Or.inr (Or.inl ⟨h0, by rw [decide_eq_true h0, decide_eq_false h1]; rfl, h1⟩)
  ·exact Or.inl ⟨by rw [decide_eq_false h0]; rfl, h0⟩
 rcases hw with ⟨e, h0⟩ | ⟨h0, e, h1⟩ | ⟨h0, h1, e⟩
 all_goals
  rw [e]
  go_enter Tryz.func60, Tryz.ntmps60
  go_wp2_with fail
  exact bodyPost_ret (v := .bool _) (by simp only [results, Tryz.results60]; go_simp) rfl ⟨rfl, (by repeat' (first | exact Below.refl _ _ | assumption | apply bDrewN | apply bDrew | apply bAlloc | (refine bSet ?_ ?_ _) | (refine bStep ?_ (by assumption)) | omega | (simp <;> omega)))⟩
set_option maxHeartbeats 4000000 in
set_option maxRecDepth 20000 in
theorem Check_form {least fa fb : Int} {FN FO : FuncId} {p q : Bool} (n : Nat) (hn : 1 ≤ n ∧ n ≤ 9) (t a b : Int) (nm ot : ByteArray) (w : World)
  (k1 : formL[n * 6 + 1]? = some (.int .i64 least)) (k2 : formL[n * 6 + 2]? = some (.int .i64 fa)) (k3 : formL[n * 6 + 3]? = some (.int .i64 fb)) (k4 : formL[n * 6 + 4]? = some (.func (.func FN) #[] #[])) (k5 : formL[n * 6 + 5]? = some (.func (.func FO) #[] #[]))
  (eN : ∀ W : World, (callFunc FN #[.string nm]).run Tryz.prog W = .ok (.enter FN #[.string nm]) W) (eO : ∀ W : World, (callFunc FO #[.string ot]).run Tryz.prog W = .ok (.enter FO #[.string ot]) W)
  (hN : ∀ W, Below w.heap.size w W → Calls Tryz.prog FN #[.string nm] W fun e w' => e = .returned (.bool p) ∧ Below W.heap.size W w') (hO : ∀ W, Below w.heap.size w W → Calls Tryz.prog FO #[.string ot] W fun e w' => e = .returned (.bool q) ∧ Below W.heap.size W w') :
  Calls Tryz.prog 42 #[.agg #[.int .i64 (n : Int), .int .i64 t, .int .i64 a, .int .i64 b, .string nm, .string ot]] w fun e w' => e = .returned (.int .i64 (bif chkB least fa fb t a b p q then 2 else 0)) ∧ Below w.heap.size w w' := by
 have HN := Lib.hid hN
 have HO := Lib.hid hO
 have HB0 : Hid (Below w.heap.size w (w.alloc (.cells #[.int .i64 (n : Int), .int .i64 t, .int .i64 a, .int .i64 b, .string nm, .string ot] 29))) := bAlloc (Below.refl _ _) _
 have HX := Lib.hid (blk_new w (.cells #[.int .i64 (n : Int), .int .i64 t, .int .i64 a, .int .i64 b, .string nm, .string ot] 29))
 have CF := Lib.hid (formOf_at n hn)
 clear hN hO
 have hw : (tmB t = false ∧ chkB least fa fb t a b p q = true) ∨ (tmB t = true ∧ a < least ∧ chkB least fa fb t a b p q = true) ∨ (tmB t = true ∧ ¬ a < least ∧ a > fa ∧ chkB least fa fb t a b p q = true) ∨ (tmB t = true ∧ ¬ a < least ∧ ¬ a > fa ∧ b < 0 ∧ chkB least fa fb t a b p q = true) ∨ (tmB t = true ∧ ¬ a < least ∧ ¬ a > fa ∧ ¬ b < 0 ∧ b > fb ∧ chkB least fa fb t a b p q = true) ∨
   (tmB t = true ∧ ¬ a < least ∧ ¬ a > fa ∧ ¬ b < 0 ∧ ¬ b > fb ∧ p = false ∧ chkB least fa fb t a b p q = true) ∨ (tmB t = true ∧ ¬ a < least ∧ ¬ a > fa ∧ ¬ b < 0 ∧ ¬ b > fb ∧ p = true ∧ q = false ∧ chkB least fa fb t a b p q = true) ∨ (tmB t = true ∧ ¬ a < least ∧ ¬ a > fa ∧ ¬ b < 0 ∧ ¬ b > fb ∧ p = true ∧ q = true ∧ chkB least fa fb t a b p q = false) := by
  have hd : chkB least fa fb t a b p q = (bif !(tmB t) then true else bif decide (a < least) then true else bif decide (a > fa) then true else bif decide (b < 0) then true else bif decide (b > fb) then true else bif !p then true else !q) := rfl
  rw [hd]
  cases tmB t
  ·exact Or.inl ⟨rfl, rfl⟩
  by_cases c1 : a < least
  ·exact Or.inr (Or.inl ⟨rfl, c1, by rw [decide_eq_true c1]; rfl⟩)
  by_cases c2 : a > fa
  ·exact Or.inr (Or.inr (Or.inl ⟨rfl, c1, c2, by rw [decide_eq_false c1, decide_eq_true c2]; rfl⟩))
  by_cases c3 : b < 0
  ·exact Or.inr (Or.inr (Or.inr (Or.inl ⟨rfl, c1, c2, c3, by rw [decide_eq_false c1, decide_eq_false c2, decide_eq_true c3]; rfl⟩)))
  by_cases c4 : b > fb
  ·exact Or.inr (Or.inr (Or.inr (Or.inr (Or.inl ⟨rfl, c1, c2, c3, c4, by rw [decide_eq_false c1, decide_eq_false c2, decide_eq_false c3, decide_eq_true c4]; rfl⟩))))
  cases p
  ·exact Or.inr (Or.inr (Or.inr (Or.inr (Or.inr (Or.inl ⟨rfl, c1, c2, c3, c4, rfl, by rw [decide_eq_false c1, decide_eq_false c2, decide_eq_false c3, decide_eq_false c4]; rfl⟩)))))
  cases q
  ·exact Or.inr (Or.inr (Or.inr (Or.inr (Or.inr (Or.inr (Or.inl ⟨rfl, c1, c2, c3, c4, rfl, rfl, by rw [decide_eq_false c1, decide_eq_false c2, decide_eq_false c3, decide_eq_false c4]; rfl⟩))))))
  ·exact Or.inr (Or.inr (Or.inr (Or.inr (Or.inr (Or.inr (Or.inr ⟨rfl, c1, c2, c3, c4, rfl, rfl, by rw [decide_eq_false c1, decide_eq_false c2, decide_eq_false c3, decide_eq_false c4]; rfl⟩))))))
 rcases hw with ⟨e0, hr⟩ | ⟨e0, c1, hr⟩ | ⟨e0, c1, c2, hr⟩ | ⟨e0, c1, c2, c3, hr⟩ | ⟨e0, c1, c2, c3, c4, hr⟩ | ⟨e0, c1, c2, c3, c4, rfl, hr⟩ | ⟨e0, c1, c2, c3, c4, rfl, rfl, hr⟩ | ⟨e0, c1, c2, c3, c4, rfl, rfl, hr⟩
 all_goals
  rw [hr]
  have CT := Lib.hid (isTime_b t)
  rw [e0] at CT
  clear hr e0
  go_enter Tryz.func42, Tryz.ntmps42
  go_upto_region 1 with fail
  generalize w.alloc (.cells #[.int .i64 (n : Int), .int .i64 t, .int .i64 a, .int .i64 b, .string nm, .string ot] 29) = W0 at *
  have x0 := blk_cell (o := 0) HX.out rfl
  have xl := blk_lt HX.out
  go_upto_region 2 with (go_at_call 87; refine (CF.out _).mono ?_; rintro e w1 ⟨B, rfl, hF, hb⟩; have HF := Lib.hid hF; have HB2 := Lib.hid hb; clear hF hb)
  have HBW := Lib.hid (bStep HB0.out HB2.out)
  have g := fun (s : WStep w1) (j : Nat) (u : Value) (hj : formL[j]? = some u) => cell_step (HF.out.2 j u hj) s.2
  have f1 := fun s : WStep w1 => g s _ _ k1
  have f2 := fun s : WStep w1 => g s _ _ k2
  have f3 := fun s : WStep w1 => g s _ _ k3
  have f4 := fun s : WStep w1 => g s _ _ k4
  have f5 := fun s : WStep w1 => g s _ _ k5
  have fl := fun s : WStep w1 => Nat.lt_of_lt_of_le HF.out.1 s.2.size
  have y1 := fun s : WStep w1 => cell_step (blk_cell (o := 1) (blk_step HX.out HB2.out) rfl) s.2
  have y2 := fun s : WStep w1 => cell_step (blk_cell (o := 2) (blk_step HX.out HB2.out) rfl) s.2
  have y3 := fun s : WStep w1 => cell_step (blk_cell (o := 3) (blk_step HX.out HB2.out) rfl) s.2
  have y4 := fun s : WStep w1 => cell_step (blk_cell (o := 4) (blk_step HX.out HB2.out) rfl) s.2
  have y5 := fun s : WStep w1 => cell_step (blk_cell (o := 5) (blk_step HX.out HB2.out) rfl) s.2
  have yl := fun s : WStep w1 => Nat.lt_of_lt_of_le (blk_lt (blk_step HX.out HB2.out)) s.2.size
  have CC := Lib.hid (fun s : WStep w1 => step_call s (CT.out s.1))
  have CN := Lib.hid (fun s : WStep w1 => step_call s (HN.out s.1 (bStep HBW.out s.2)))
  have CO := Lib.hid (fun s : WStep w1 => step_call s (HO.out s.1 (bStep HBW.out s.2)))
  clear g x0 xl CF CT
 ·(first | (have d1 : decide (a < least) = true := decide_eq_true (by omega)) | (have d1 : decide (a < least) = false := decide_eq_false (by omega)) | (have d1 := trivial))
  (first | (have d2 : decide (fa < a) = true := decide_eq_true (by omega)) | (have d2 : decide (fa < a) = false := decide_eq_false (by omega)) | (have d2 := trivial))
  (first | (have d3 : decide (b < 0) = true := decide_eq_true (by omega)) | (have d3 : decide (b < 0) = false := decide_eq_false (by omega)) | (have d3 := trivial))
  (first | (have d4 : decide (fb < b) = true := decide_eq_true (by omega)) | (have d4 : decide (fb < b) = false := decide_eq_false (by omega)) | (have d4 := trivial))
  refine wp_region_lock (by kernel_rfl) (by kernel_rfl) ?_
  repeat (first | (refine WQ.skip rfl rfl rfl rfl ?_; simp only [Act.put, sl1, sl2, sl3, sl4]) | ((first | (apply WQ.val; (exact rfl)) | (apply WQ.valg; (exact rfl); (exact rfl); (exact rfl))); (intro w9 hw9; obtain ⟨s9, rfl⟩ := hw9; simp [go_sem, eN, eO, f1, f2, f3, f4, f5, fl, y1, y2, y3, y4, y5, yl, d1, d2, d3, d4]; first | done | exact rfl | (with_reducible exact CC.out s9) | (with_reducible exact CN.out s9) | (with_reducible exact CO.out s9)); simp only [Act.put, sl1, sl2, sl3, sl4]))
  refine WQ.fin fun W5 hb5 => ?_
  go_wp2_with fail
  exact bodyPost_ret (v := .int .i64 _) (by simp only [results, Tryz.results42]; go_simp) rfl ⟨rfl, bStep HBW.out hb5⟩
 ·(first | (have d1 : decide (a < least) = true := decide_eq_true (by omega)) | (have d1 : decide (a < least) = false := decide_eq_false (by omega)) | (have d1 := trivial))
  (first | (have d2 : decide (fa < a) = true := decide_eq_true (by omega)) | (have d2 : decide (fa < a) = false := decide_eq_false (by omega)) | (have d2 := trivial))
  (first | (have d3 : decide (b < 0) = true := decide_eq_true (by omega)) | (have d3 : decide (b < 0) = false := decide_eq_false (by omega)) | (have d3 := trivial))
  (first | (have d4 : decide (fb < b) = true := decide_eq_true (by omega)) | (have d4 : decide (fb < b) = false := decide_eq_false (by omega)) | (have d4 := trivial))
  refine wp_region_lock (by kernel_rfl) (by kernel_rfl) ?_
  repeat (first | (refine WQ.skip rfl rfl rfl rfl ?_; simp only [Act.put, sl1, sl2, sl3, sl4]) | ((first | (apply WQ.val; (exact rfl)) | (apply WQ.valg; (exact rfl); (exact rfl); (exact rfl))); (intro w9 hw9; obtain ⟨s9, rfl⟩ := hw9; simp [go_sem, eN, eO, f1, f2, f3, f4, f5, fl, y1, y2, y3, y4, y5, yl, d1, d2, d3, d4]; first | done | exact rfl | (with_reducible exact CC.out s9) | (with_reducible exact CN.out s9) | (with_reducible exact CO.out s9)); simp only [Act.put, sl1, sl2, sl3, sl4]))
  refine WQ.fin fun W5 hb5 => ?_
  go_wp2_with fail
  exact bodyPost_ret (v := .int .i64 _) (by simp only [results, Tryz.results42]; go_simp) rfl ⟨rfl, bStep HBW.out hb5⟩
 ·(first | (have d1 : decide (a < least) = true := decide_eq_true (by omega)) | (have d1 : decide (a < least) = false := decide_eq_false (by omega)) | (have d1 := trivial))
  (first | (have d2 : decide (fa < a) = true := decide_eq_true (by omega)) | (have d2 : decide (fa < a) = false := decide_eq_false (by omega)) | (have d2 := trivial))
  (first | (have d3 : decide (b < 0) = true := decide_eq_true (by omega)) | (have d3 : decide (b < 0) = false := decide_eq_false (by omega)) | (have d3 := trivial))
  (first | (have d4 : decide (fb < b) = true := decide_eq_true (by omega)) | (have d4 : decide (fb < b) = false := decide_eq_false (by omega)) | (have d4 := trivial))
  refine wp_region_lock (by kernel_rfl) (by kernel_rfl) ?_
  repeat (first | (refine WQ.skip rfl rfl rfl rfl ?_; simp only [Act.put, sl1, sl2, sl3, sl4]) | ((first | (apply WQ.val; (exact rfl)) | (apply WQ.valg; (exact rfl); (exact rfl); (exact rfl))); (intro w9 hw9; obtain ⟨s9, rfl⟩ := hw9; simp [go_sem, eN, eO, f1, f2, f3, f4, f5, fl, y1, y2, y3, y4, y5, yl, d1, d2, d3, d4]; first | done | exact rfl | (with_reducible exact CC.out s9) | (with_reducible exact CN.out s9) | (with_reducible exact CO.out s9)); simp only [Act.put, sl1, sl2, sl3, sl4]))
  refine WQ.fin fun W5 hb5 => ?_
  go_wp2_with fail
  exact bodyPost_ret (v := .int .i64 _) (by simp only [results, Tryz.results42]; go_simp) rfl ⟨rfl, bStep HBW.out hb5⟩
 ·(first | (have d1 : decide (a < least) = true := decide_eq_true (by omega)) | (have d1 : decide (a < least) = false := decide_eq_false (by omega)) | (have d1 := trivial))
  (first | (have d2 : decide (fa < a) = true := decide_eq_true (by omega)) | (have d2 : decide (fa < a) = false := decide_eq_false (by omega)) | (have d2 := trivial))
  (first | (have d3 : decide (b < 0) = true := decide_eq_true (by omega)) | (have d3 : decide (b < 0) = false := decide_eq_false (by omega)) | (have d3 := trivial))
  (first | (have d4 : decide (fb < b) = true := decide_eq_true (by omega)) | (have d4 : decide (fb < b) = false := decide_eq_false (by omega)) | (have d4 := trivial))
  refine wp_region_lock (by kernel_rfl) (by kernel_rfl) ?_
  repeat (first | (refine WQ.skip rfl rfl rfl rfl ?_; simp only [Act.put, sl1, sl2, sl3, sl4]) | ((first | (apply WQ.val; (exact rfl)) | (apply WQ.valg; (exact rfl); (exact rfl); (exact rfl))); (intro w9 hw9; obtain ⟨s9, rfl⟩ := hw9; simp [go_sem, eN, eO, f1, f2, f3, f4, f5, fl, y1, y2, y3, y4, y5, yl, d1, d2, d3, d4]; first | done | exact rfl | (with_reducible exact CC.out s9) | (with_reducible exact CN.out s9) | (with_reducible exact CO.out s9)); simp only [Act.put, sl1, sl2, sl3, sl4]))
  refine WQ.fin fun W5 hb5 => ?_
  go_wp2_with fail
  exact bodyPost_ret (v := .int .i64 _) (by simp only [results, Tryz.results42]; go_simp) rfl ⟨rfl, bStep HBW.out hb5⟩
 ·(first | (have d1 : decide (a < least) = true := decide_eq_true (by omega)) | (have d1 : decide (a < least) = false := decide_eq_false (by omega)) | (have d1 := trivial))
  (first | (have d2 : decide (fa < a) = true := decide_eq_true (by omega)) | (have d2 : decide (fa < a) = false := decide_eq_false (by omega)) | (have d2 := trivial))
  (first | (have d3 : decide (b < 0) = true := decide_eq_true (by omega)) | (have d3 : decide (b < 0) = false := decide_eq_false (by omega)) | (have d3 := trivial))
  (first | (have d4 : decide (fb < b) = true := decide_eq_true (by omega)) | (have d4 : decide (fb < b) = false := decide_eq_false (by omega)) | (have d4 := trivial))
  refine wp_region_lock (by kernel_rfl) (by kernel_rfl) ?_
  repeat (first | (refine WQ.skip rfl rfl rfl rfl ?_; simp only [Act.put, sl1, sl2, sl3, sl4]) | ((first | (apply WQ.val; (exact rfl)) | (apply WQ.valg; (exact rfl); (exact rfl); (exact rfl))); (intro w9 hw9; obtain ⟨s9, rfl⟩ := hw9; simp [go_sem, eN, eO, f1, f2, f3, f4, f5, fl, y1, y2, y3, y4, y5, yl, d1, d2, d3, d4]; first | done | exact rfl | (with_reducible exact CC.out s9) | (with_reducible exact CN.out s9) | (with_reducible exact CO.out s9)); simp only [Act.put, sl1, sl2, sl3, sl4]))
  refine WQ.fin fun W5 hb5 => ?_
  go_wp2_with fail
  exact bodyPost_ret (v := .int .i64 _) (by simp only [results, Tryz.results42]; go_simp) rfl ⟨rfl, bStep HBW.out hb5⟩
 ·(first | (have d1 : decide (a < least) = true := decide_eq_true (by omega)) | (have d1 : decide (a < least) = false := decide_eq_false (by omega)) | (have d1 := trivial))
  (first | (have d2 : decide (fa < a) = true := decide_eq_true (by omega)) | (have d2 : decide (fa < a) = false := decide_eq_false (by omega)) | (have d2 := trivial))
  (first | (have d3 : decide (b < 0) = true := decide_eq_true (by omega)) | (have d3 : decide (b < 0) = false := decide_eq_false (by omega)) | (have d3 := trivial))
  (first | (have d4 : decide (fb < b) = true := decide_eq_true (by omega)) | (have d4 : decide (fb < b) = false := decide_eq_false (by omega)) | (have d4 := trivial))
  refine wp_region_lock (by kernel_rfl) (by kernel_rfl) ?_
  repeat (first | (refine WQ.skip rfl rfl rfl rfl ?_; simp only [Act.put, sl1, sl2, sl3, sl4]) | ((first | (apply WQ.val; (exact rfl)) | (apply WQ.valg; (exact rfl); (exact rfl); (exact rfl))); (intro w9 hw9; obtain ⟨s9, rfl⟩ := hw9; simp [go_sem, eN, eO, f1, f2, f3, f4, f5, fl, y1, y2, y3, y4, y5, yl, d1, d2, d3, d4]; first | done | exact rfl | (with_reducible exact CC.out s9) | (with_reducible exact CN.out s9) | (with_reducible exact CO.out s9)); simp only [Act.put, sl1, sl2, sl3, sl4]))
  refine WQ.fin fun W5 hb5 => ?_
  go_wp2_with fail
  exact bodyPost_ret (v := .int .i64 _) (by simp only [results, Tryz.results42]; go_simp) rfl ⟨rfl, bStep HBW.out hb5⟩
 ·(first | (have d1 : decide (a < least) = true := decide_eq_true (by omega)) | (have d1 : decide (a < least) = false := decide_eq_false (by omega)) | (have d1 := trivial))
  (first | (have d2 : decide (fa < a) = true := decide_eq_true (by omega)) | (have d2 : decide (fa < a) = false := decide_eq_false (by omega)) | (have d2 := trivial))
  (first | (have d3 : decide (b < 0) = true := decide_eq_true (by omega)) | (have d3 : decide (b < 0) = false := decide_eq_false (by omega)) | (have d3 := trivial))
  (first | (have d4 : decide (fb < b) = true := decide_eq_true (by omega)) | (have d4 : decide (fb < b) = false := decide_eq_false (by omega)) | (have d4 := trivial))
  refine wp_region_lock (by kernel_rfl) (by kernel_rfl) ?_
  repeat (first | (refine WQ.skip rfl rfl rfl rfl ?_; simp only [Act.put, sl1, sl2, sl3, sl4]) | ((first | (apply WQ.val; (exact rfl)) | (apply WQ.valg; (exact rfl); (exact rfl); (exact rfl))); (intro w9 hw9; obtain ⟨s9, rfl⟩ := hw9; simp [go_sem, eN, eO, f1, f2, f3, f4, f5, fl, y1, y2, y3, y4, y5, yl, d1, d2, d3, d4]; first | done | exact rfl | (with_reducible exact CC.out s9) | (with_reducible exact CN.out s9) | (with_reducible exact CO.out s9)); simp only [Act.put, sl1, sl2, sl3, sl4]))
  refine WQ.fin fun W5 hb5 => ?_
  go_wp2_with fail
  exact bodyPost_ret (v := .int .i64 _) (by simp only [results, Tryz.results42]; go_simp) rfl ⟨rfl, bStep HBW.out hb5⟩
 ·(first | (have d1 : decide (a < least) = true := decide_eq_true (by omega)) | (have d1 : decide (a < least) = false := decide_eq_false (by omega)) | (have d1 := trivial))
  (first | (have d2 : decide (fa < a) = true := decide_eq_true (by omega)) | (have d2 : decide (fa < a) = false := decide_eq_false (by omega)) | (have d2 := trivial))
  (first | (have d3 : decide (b < 0) = true := decide_eq_true (by omega)) | (have d3 : decide (b < 0) = false := decide_eq_false (by omega)) | (have d3 := trivial))
  (first | (have d4 : decide (fb < b) = true := decide_eq_true (by omega)) | (have d4 : decide (fb < b) = false := decide_eq_false (by omega)) | (have d4 := trivial))
  refine wp_region_lock (by kernel_rfl) (by kernel_rfl) ?_
  repeat (first | (refine WQ.skip rfl rfl rfl rfl ?_; simp only [Act.put, sl1, sl2, sl3, sl4]) | ((first | (apply WQ.val; (exact rfl)) | (apply WQ.valg; (exact rfl); (exact rfl); (exact rfl))); (intro w9 hw9; obtain ⟨s9, rfl⟩ := hw9; simp [go_sem, eN, eO, f1, f2, f3, f4, f5, fl, y1, y2, y3, y4, y5, yl, d1, d2, d3, d4]; first | done | exact rfl | (with_reducible exact CC.out s9) | (with_reducible exact CN.out s9) | (with_reducible exact CO.out s9)); simp only [Act.put, sl1, sl2, sl3, sl4]))
  refine WQ.fin fun W5 hb5 => ?_
  go_wp2_with fail
  exact bodyPost_ret (v := .int .i64 _) (by simp only [results, Tryz.results42]; go_simp) rfl ⟨rfl, bStep HBW.out hb5⟩
set_option maxHeartbeats 4000000 in
set_option maxRecDepth 20000 in
theorem Check_any (k t a b : Int) (nm ot : ByteArray) (w : World) (hG : Glob0 w) (h1 : nm.size ≤ 1000000) (h2 : ot.size ≤ 1000000) :
  Calls Tryz.prog 42 #[.agg #[.int .i64 k, .int .i64 t, .int .i64 a, .int .i64 b, .string nm, .string ot]] w fun e w' => e = .returned (.int .i64 (bif okE k t a b nm ot then 0 else 2)) ∧ Below w.heap.size w w' := by
 by_cases hk : 1 ≤ k ∧ k ≤ 9
 ·have e : (bif okE k t a b nm ot then (0 : Int) else 2) = (bif chkE k t a b nm ot then 2 else 0) := by
   unfold okE
   rw [decide_eq_true ⟨hk.1, hk.2, h1, h2⟩]
   cases chkE k t a b nm ot <;> rfl
  rw [e]
  have HG := hG
  have CI := fun (s : ByteArray) (hs : s.size ≤ 1000000) W (_ : Below w.heap.size w W) => isName_any s W (by omega)
  have CM := fun W (hW : Below w.heap.size w W) => module_any nm W h1 (gstep hG hW)
  have CE := fun (s : ByteArray) W (_ : Below w.heap.size w W) => empty_any s W
  have hc : k = (1 : Nat) ∨ k = (2 : Nat) ∨ k = (3 : Nat) ∨ k = (4 : Nat) ∨ k = (5 : Nat) ∨ k = (6 : Nat) ∨ k = (7 : Nat) ∨ k = (8 : Nat) ∨ k = (9 : Nat) := by omega
  rcases hc with rfl | rfl | rfl | rfl | rfl | rfl | rfl | rfl | rfl
  ·exact Check_form 1 (by decide) t a b nm ot w rfl rfl rfl rfl rfl (fun W => rfl) (fun W => rfl) (CI nm h1) (CE ot)
  ·exact Check_form 2 (by decide) t a b nm ot w rfl rfl rfl rfl rfl (fun W => rfl) (fun W => rfl) (CE nm) (CE ot)
  ·exact Check_form 3 (by decide) t a b nm ot w rfl rfl rfl rfl rfl (fun W => rfl) (fun W => rfl) (CE nm) (CE ot)
  ·exact Check_form 4 (by decide) t a b nm ot w rfl rfl rfl rfl rfl (fun W => rfl) (fun W => rfl) (CE nm) (CE ot)
  ·exact Check_form 5 (by decide) t a b nm ot w rfl rfl rfl rfl rfl (fun W => rfl) (fun W => rfl) CM (CI ot h2)
  ·exact Check_form 6 (by decide) t a b nm ot w rfl rfl rfl rfl rfl (fun W => rfl) (fun W => rfl) CM (CI ot h2)
  ·exact Check_form 7 (by decide) t a b nm ot w rfl rfl rfl rfl rfl (fun W => rfl) (fun W => rfl) (CI nm h1) (CE ot)
  ·exact Check_form 8 (by decide) t a b nm ot w rfl rfl rfl rfl rfl (fun W => rfl) (fun W => rfl) (CI nm h1) (CE ot)
  ·exact Check_form 9 (by decide) t a b nm ot w rfl rfl rfl rfl rfl (fun W => rfl) (fun W => rfl) (CE nm) (CE ot)
 ·have e : okE k t a b nm ot = false := by
   unfold okE
   rw [decide_eq_false (by omega)]
   rfl
  rw [e]
  have CF := Lib.hid (formOf_no k hk)
  have HB0 : Hid (Below w.heap.size w (w.alloc (.cells #[.int .i64 k, .int .i64 t, .int .i64 a, .int .i64 b, .string nm, .string ot] 29))) := bAlloc (Below.refl _ _) _
  have HX := Lib.hid (blk_new w (.cells #[.int .i64 k, .int .i64 t, .int .i64 a, .int .i64 b, .string nm, .string ot] 29))
  clear hG e hk h1 h2
  go_enter Tryz.func42, Tryz.ntmps42
  go_upto_region 1 with fail
  generalize w.alloc (.cells #[.int .i64 k, .int .i64 t, .int .i64 a, .int .i64 b, .string nm, .string ot] 29) = W0 at *
  have x0 := blk_cell (o := 0) HX.out rfl
  have xl := blk_lt HX.out
  go_upto_region 2 with (go_at_call 87; refine (CF.out _).mono ?_; rintro e w1 ⟨rfl, hb⟩; have HB2 := Lib.hid hb; clear hb)
  have HBW := Lib.hid (bStep HB0.out HB2.out)
  clear x0 xl CF
  refine wp_region_lock (by kernel_rfl) (by kernel_rfl) ?_
  repeat (first | (refine WQ.skip rfl rfl rfl rfl ?_; simp only [Act.put, sl1, sl2, sl3, sl4]) | ((first | (apply WQ.val; (exact rfl)) | (apply WQ.valg; (exact rfl); (exact rfl); (exact rfl))); (intro w9 hw9; obtain ⟨s9, rfl⟩ := hw9; simp [go_sem]; first | done | exact rfl); simp only [Act.put, sl1, sl2, sl3, sl4]))
  refine WQ.fin fun W5 hb5 => ?_
  go_wp2_with fail
  exact bodyPost_ret (v := .int .i64 2) (by simp only [results, Tryz.results42]; go_simp) rfl ⟨rfl, bStep HBW.out hb5⟩
end Go.Proofs.YtmpilgkfbibhlaaGreatDoor
