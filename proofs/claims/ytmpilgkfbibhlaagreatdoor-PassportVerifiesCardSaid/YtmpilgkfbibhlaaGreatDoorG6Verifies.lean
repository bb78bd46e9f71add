/-
  A region; ways that meet again.
-/
import Derived.Test.YtmpilgkfbibhlaaGreatDoorG5Verifies
import Derived.LoopN
import Derived.Below
import Derived.ProofKit
import Derived.OpenShut
import Derived.WideShapes
import Derived.Test.YtmpilgkfbibhlaaGreatDoorProg
import Derived.KernelRfl
set_option linter.unusedSimpArgs false
set_option linter.unusedVariables false
namespace Go.Proofs.YtmpilgkfbibhlaaGreatDoor
namespace Sx
open Go.RowKit

section
variable {P : Program} {tb : Tb}

def Tree.At {α : Type} : Tree α → α → Prop
  | .leaf x, y => x = y
  | .br b t f, y => (b = true ∧ t.At y) ∨ (b = false ∧ f.At y)
  | .must b t, y => b = true ∧ t.At y
  | .fail, _ => False
theorem Tree.At.all {α : Type} {p : α → Prop} {x : α} : ∀ {t : Tree α}, t.At x → t.All p → p x
  | .leaf y, h, k => by obtain rfl : y = x := h; exact k
  | .br b t f, h, k => by
    rcases h with ⟨hb, h⟩ | ⟨hb, h⟩
    · exact h.all (k.1 hb)
    · exact h.all (k.2 hb)
  | .must b t, h, k => h.2.all k.2
  | .fail, h, _ => h.elim
theorem Tree.All.at_ {α : Type} {p : α → Prop} : ∀ {t : Tree α}, t.All p → ∃ x, t.At x ∧ p x
  | .leaf y, k => ⟨y, rfl, k⟩
  | .br b t f, k => by
    cases hb : b with
    | true => obtain ⟨x, h1, h2⟩ := (k.1 hb).at_; exact ⟨x, Or.inl ⟨rfl, h1⟩, h2⟩
    | false => obtain ⟨x, h1, h2⟩ := (k.2 hb).at_; exact ⟨x, Or.inr ⟨rfl, h1⟩, h2⟩
  | .must b t, k => by obtain ⟨x, h1, h2⟩ := k.2.at_; exact ⟨x, ⟨k.1, h1⟩, h2⟩
  | .fail, k => k.elim
theorem Tree.At.eqAll {α : Type} {x : α} : ∀ {t : Tree α}, t.At x → t.All (· = x)
  | .leaf y, h => h
  | .br b t f, h => by
    rcases h with ⟨hb, h⟩ | ⟨hb, h⟩
    · exact ⟨fun _ => h.eqAll, fun hf => absurd (hb.symm.trans hf) (by decide)⟩
    · exact ⟨fun ht => absurd (hb.symm.trans ht) (by decide), fun _ => h.eqAll⟩
  | .must b t, h => ⟨h.1, h.2.eqAll⟩
  | .fail, h => h.elim
theorem Tree.At_bind {α β : Type} {g : α → Tree β} {y : β} : ∀ {t : Tree α}, (t.bind g).At y ↔ ∃ x, t.At x ∧ (g x).At y
  | .leaf x => ⟨fun h => ⟨x, rfl, h⟩, fun ⟨_, h1, h2⟩ => by obtain rfl := h1; exact h2⟩
  | .br b t f => by
    simp only [Tree.bind, Tree.At, Tree.At_bind (t := t), Tree.At_bind (t := f)]
    constructor
    · rintro (⟨hb, x, h1, h2⟩ | ⟨hb, x, h1, h2⟩)
      · exact ⟨x, Or.inl ⟨hb, h1⟩, h2⟩
      · exact ⟨x, Or.inr ⟨hb, h1⟩, h2⟩
    · rintro ⟨x, ⟨hb, h1⟩ | ⟨hb, h1⟩, h2⟩
      · exact Or.inl ⟨hb, x, h1, h2⟩
      · exact Or.inr ⟨hb, x, h1, h2⟩
  | .must b t => by
    simp only [Tree.bind, Tree.At, Tree.At_bind (t := t)]
    constructor
    · rintro ⟨hb, x, h1, h2⟩; exact ⟨x, ⟨hb, h1⟩, h2⟩
    · rintro ⟨x, ⟨hb, h1⟩, h2⟩; exact ⟨hb, x, h1, h2⟩
  | .fail => ⟨fun h => h.elim, fun ⟨_, h, _⟩ => h.elim⟩

/-! places that meet -/
inductive Dm where
  | t (n : Nat)
  | c (id off : Nat)
  | b (id : Nat)
  | n (c : Nat)
def Wr.dom : Wr → Dm
  | .tm n _ => .t n
  | .ft n => .t n
  | .cell id off _ => .c id off
  | .new id _ => .b id
  | .nm c => .n c
def lOv : Dm → Loc → Bool
  | .t n, .t m => Nat.beq n m
  | .c id off, .c i o => Nat.beq id i && Nat.beq off o
  | .b id, .k i => Nat.beq id i
  | .b id, .c i _ => Nat.beq id i
  | .n c, .n d => Nat.beq c d
  | _, _ => false
def dOv : Dm → Dm → Bool
  | .t n, .t m => Nat.beq n m
  | .c id off, .c i o => Nat.beq id i && Nat.beq off o
  | .b id, .b i => Nat.beq id i
  | .b id, .c i _ => Nat.beq id i
  | .c i _, .b id => Nat.beq id i
  | .n c, .n d => Nat.beq c d
  | _, _ => false
theorem fn_dom {x : Wr} {l : Loc} (h : (x.fn l).isSome = true) : lOv x.dom l = true := by
  cases x <;> cases l <;> simp only [Wr.fn] at h <;> first
    | cases h; done
    | (split at h
       · rename_i e
         first
           | (subst e; exact Nat.beq_refl _)
           | (obtain ⟨rfl, rfl⟩ := e; simp [lOv, Wr.dom])
       · cases h)
theorem ov_of {a b : Dm} {l : Loc} (h1 : lOv a l = true) (h2 : lOv b l = true) : dOv a b = true := by
  cases l <;> cases a <;> simp only [lOv] at h1 <;> (try (cases h1; done)) <;> cases b <;> simp only [lOv] at h2 <;> (try (cases h2; done)) <;>
    simp only [Bool.and_eq_true, beq_iff'] at h1 h2 <;> simp only [dOv, Bool.and_eq_true, beq_iff'] <;> omega
theorem fns_some {l : Loc} : ∀ {ws : List Wr}, (fns ws l).isSome = true → ∃ x ∈ ws, (x.fn l).isSome = true
  | [], h => by cases h
  | x :: ws, h => by
    simp only [fns] at h
    cases hf : fns ws l with
    | some y => obtain ⟨z, h1, h2⟩ := fns_some (ws := ws) (l := l) (by rw [hf]; rfl); exact ⟨z, List.mem_cons_of_mem _ h1, h2⟩
    | none => rw [hf] at h; exact ⟨x, List.mem_cons_self, h⟩
structure Tr where
  σ : St
  locs : List Loc
  ws : List Wr
def ovWW (a b : List Wr) : Bool := a.any fun x => b.any fun y => dOv x.dom y.dom
def ovWR (a : List Wr) (r : List Loc) : Bool := a.any fun x => r.any fun l => lOv x.dom l
def noConf (x y : Tr) : Bool := !(ovWW x.ws y.ws || (ovWR x.ws y.locs || ovWR y.ws x.locs))
def confJ (m : Nat) (y : Tr) : Nat → List Tr → Bool
  | _, [] => true
  | i, x :: l => (m.testBit i || noConf x y) && confJ m y (i + 1) l
def confB (l : List Tr) (ms : List Nat) : Bool := (List.range l.length).all fun j => match l[j]? with
  | some y => confJ (ms.getD j 0) y 0 (l.take j)
  | none => true
theorem confJ_at {m : Nat} {y : Tr} : ∀ {l : List Tr} {k : Nat}, confJ m y k l = true → ∀ i x, l[i]? = some x → (m.testBit (k + i) || noConf x y) = true
  | [], k, h, i, x, hx => by simp at hx
  | z :: l, k, h, i, x, hx => by
    simp only [confJ, Bool.and_eq_true] at h
    cases i with
    | zero => obtain rfl : z = x := by simpa using hx
              exact h.1
    | succ i => have := confJ_at h.2 i x (by simpa using hx); rwa [show k + 1 + i = k + (i + 1) by omega] at this
def partOf (x : Tr) : Part Loc LV := ⟨x.locs.map fun l => (l, look x.σ l), fns x.ws⟩
def partAt (l : List Tr) (i : Nat) : Part Loc LV := match l[i]? with
  | some x => partOf x
  | none => ⟨[], fun _ => none⟩
theorem confB_ok {l : List Tr} {ms : List Nat} (h : confB l ms = true) : ∀ i j, i < j → j < l.length → ∀ x, ((((partAt l i).wr x).isSome = true ∧ (((partAt l j).wr x).isSome = true ∨ x ∈ (partAt l j).rd.map (·.1))) ∨ (x ∈ (partAt l i).rd.map (·.1) ∧ ((partAt l j).wr x).isSome = true)) → (ms.getD j 0).testBit i = true := by
  intro i j hij hj x hx
  have hi : i < l.length := by omega
  have hjl : l[j]? = some l[j] := List.getElem?_eq_getElem hj
  have hil : l[i]? = some l[i] := List.getElem?_eq_getElem hi
  have h1 := List.all_eq_true.1 h j (List.mem_range.2 hj)
  rw [hjl] at h1
  simp only [] at h1
  have h2 := confJ_at h1 i l[i] (by rw [List.getElem?_take_of_lt hij]; exact hil)
  rw [Nat.zero_add, Bool.or_eq_true] at h2
  rcases h2 with h2 | h2
  · exact h2
  · exfalso
    have ei : partAt l i = partOf l[i] := by unfold partAt; rw [hil]
    have ej : partAt l j = partOf l[j] := by unfold partAt; rw [hjl]
    rw [ei, ej] at hx
    unfold noConf at h2
    have rdl : ∀ (y : Tr), x ∈ (partOf y).rd.map (·.1) → x ∈ y.locs := by
      intro y hy
      simp only [partOf, List.map_map] at hy
      obtain ⟨z, hz, rfl⟩ := List.mem_map.1 hy
      exact hz
    have ww : ∀ (y z : Tr), (fns y.ws x).isSome = true → (fns z.ws x).isSome = true → ovWW y.ws z.ws = true := by
      intro y z hy hz
      obtain ⟨p, p1, p2⟩ := fns_some hy
      obtain ⟨q, q1, q2⟩ := fns_some hz
      exact List.any_eq_true.2 ⟨p, p1, List.any_eq_true.2 ⟨q, q1, ov_of (fn_dom p2) (fn_dom q2)⟩⟩
    have wr : ∀ (y z : Tr), (fns y.ws x).isSome = true → x ∈ z.locs → ovWR y.ws z.locs = true := by
      intro y z hy hz
      obtain ⟨p, p1, p2⟩ := fns_some hy
      exact List.any_eq_true.2 ⟨p, p1, List.any_eq_true.2 ⟨x, hz, fn_dom p2⟩⟩
    rw [Bool.not_eq_true', Bool.or_eq_false_iff, Bool.or_eq_false_iff] at h2
    obtain ⟨n1, n2, n3⟩ := h2
    rcases hx with ⟨a1, a2 | a2⟩ | ⟨a1, a2⟩
    · rw [ww _ _ a1 a2] at n1; cases n1
    · rw [wr _ _ a1 (rdl _ a2)] at n2; cases n2
    · rw [wr _ _ a2 (rdl _ a1)] at n3; cases n3

def evOps (tb : Tb) (wf : List FuncId) (call : CallF) (N : Nat) (ops : Array Oper) : List Oper → St → Kn → List Tr → Tree (St × List Tr)
  | [], σ, _, acc => .leaf (σ, acc.reverse)
  | o :: rest, σ, kn, acc => (evOp tb wf call N ops σ kn o).bind fun x => evOps tb wf call N ops rest x.σ x.kn (⟨σ, x.locs, x.ws⟩ :: acc)
def Run (P : Program) (ops : Array Oper) (N : Nat) : Nat → St → List Tr → St → Prop
  | _, σ, [], σ' => σ = σ'
  | i, σ, x :: l, σ' => x.σ = σ ∧ PartOk P ops N σ i ⟨σ, [], x.locs, x.ws⟩ ∧ ∃ σ1, σ.apps x.ws = some σ1 ∧ Run P ops N (i + 1) σ1 l σ'
theorem evOps_ok {wf : List FuncId} {call : CallF} (hT : TbOk P tb) (hc : CallFOk P call) {N : Nat} {ops : Array Oper} : ∀ (l : List Oper) (i : Nat) (σ : St) (kn : Kn) (acc : List Tr), (∀ j o, l[j]? = some o → ops[i + j]? = some o) → KnOk σ kn →
    ∀ y, (evOps tb wf call N ops l σ kn acc).At y → ∃ r, y.2 = acc.reverse ++ r ∧ r.length = l.length ∧ Run P ops N i σ r y.1
  | [], i, σ, kn, acc, _, _, y, h => by
    obtain rfl : _ = y := h
    exact ⟨[], by simp, rfl, rfl⟩
  | o :: rest, i, σ, kn, acc, hl, hk, y, h => by
    obtain ⟨x, h1, h2⟩ := Tree.At_bind.1 h
    obtain ⟨x', rfl, hx⟩ := evOp_ok (P := P) hT hc (i := i) (hl 0 o rfl) hk h1.eqAll
    obtain ⟨r, r1, r2, r3⟩ := evOps_ok hT hc rest (i + 1) x'.σ x'.kn _ (fun j o' hj => by rw [show i + 1 + j = i + (j + 1) by omega]; exact hl (j + 1) o' (by simpa using hj)) hx.kn y h2
    refine ⟨⟨σ, x'.locs, x'.ws⟩ :: r, by rw [r1]; simp, by simp [r2], rfl, hx.part, x'.σ, hx.app, r3⟩
theorem Run.at_ {ops : Array Oper} {N : Nat} : ∀ {l : List Tr} {i : Nat} {σ σ' : St}, Run P ops N i σ l σ' → ∀ (f : Nat → Part Loc LV) (s0 : Loc → Option LV), (∀ j, j < l.length → f (i + j) = partAt l j) → stAt f s0 (fun _ => true) i = look σ →
    (∀ j x, l[j]? = some x → stAt f s0 (fun _ => true) (i + j) = look x.σ ∧ PartOk P ops N x.σ (i + j) ⟨x.σ, [], x.locs, x.ws⟩) ∧ stAt f s0 (fun _ => true) (i + l.length) = look σ'
  | [], i, σ, σ', h, f, s0, hf, hs => by
    obtain rfl : σ = σ' := h
    exact ⟨fun j x hj => by simp at hj, by simpa using hs⟩
  | x :: l, i, σ, σ', h, f, s0, hf, hs => by
    obtain ⟨h1, h2, σ1, h3, h4⟩ := h
    have hn : stAt f s0 (fun _ => true) (i + 1) = look σ1 := by
      show (if true = true then _ else _) = _
      rw [if_pos rfl, hs, look_apps h3, upds_fns]
      have := hf 0 (by simp)
      rw [Nat.add_zero] at this
      rw [this]
      rfl
    obtain ⟨k1, k2⟩ := Run.at_ h4 f s0 (fun j hj => by
      have := hf (j + 1) (by simp; omega)
      rw [show i + 1 + j = i + (j + 1) by omega, this]
      rfl) hn
    refine ⟨fun j y hj => ?_, by rw [show i + (x :: l).length = i + 1 + l.length by simp; omega]; exact k2⟩
    cases j with
    | zero =>
      obtain rfl : x = y := by simpa using hj
      subst h1
      exact ⟨hs, h2⟩
    | succ j =>
      have := k1 j y (by simpa using hj)
      rwa [show i + 1 + j = i + (j + 1) by omega] at this
def evReg (tb : Tb) (wf : List FuncId) (call : CallF) (N : Nat) (ops : Array Oper) (draw : Bool) (σ : St) : Tree St :=
  (evOps tb wf call N ops ops.toList σ [] []).bind fun p => match draw with
    | false => .leaf p.1
    | true => match early ops && confB p.2 (masks ops ops.size) with
      | true => .leaf p.1
      | false => .fail
def Ext (σ σ' : St) : Prop := ∃ ws, σ.apps ws = some σ' ∧ σ'.lg = ws.reverse ++ σ.lg
theorem Ext.refl (σ : St) : Ext σ σ := ⟨[], rfl, rfl⟩
theorem Ext.trans {a b c : St} (h : Ext a b) (k : Ext b c) : Ext a c := by
  obtain ⟨u, h1, h2⟩ := h
  obtain ⟨v, k1, k2⟩ := k
  exact ⟨u ++ v, by rw [apps_append, h1]; exact k1, by rw [k2, h2]; simp⟩
theorem Ext.apps {ws : List Wr} : ∀ {σ σ' : St}, σ.apps ws = some σ' → Ext σ σ' := by
  induction ws with
  | nil => intro σ σ' h; obtain rfl := Option.some.inj h; exact Ext.refl _
  | cons x ws ih =>
    intro σ σ' h
    have h0 := h
    simp only [St.apps] at h
    split at h
    · rename_i hw
      refine Ext.trans (b := σ.app x) ⟨[x], by simp [St.apps, hw], ?_⟩ (ih h)
      cases x <;> rfl
    · cases h
theorem Run.ext {ops : Array Oper} {N : Nat} : ∀ {l : List Tr} {i : Nat} {σ σ' : St}, Run P ops N i σ l σ' → Ext σ σ'
  | [], _, _, _, h => by obtain rfl := h; exact Ext.refl _
  | x :: l, i, σ, σ', h => by
    obtain ⟨_, _, σ1, h3, h4⟩ := h
    exact (Ext.apps h3).trans (Run.ext h4)
theorem evReg_ok {wf : List FuncId} {call : CallF} (hT : TbOk P tb) (hm : P.follows .mixedOrders = true) (hc : CallFOk P call) {N id : Nat} {ops : Array Oper} {draw : Bool} {σ σ' : St} (h : (evReg tb wf call N ops draw σ).At σ') :
    Ext σ σ' ∧ ∀ (C : Ctx) (e : Env) (a : Act) (w : World) (Q : Exit → Act → World → Prop), Rel C N e (look σ) a w → (∀ e' a' w', Rel C N e' (look σ') a' w' → Q .normal a' w') → (Code.region id ops draw).wp P Q a w := by
  obtain ⟨y, h1, h2⟩ := Tree.At_bind.1 h
  obtain ⟨r, r1, r2, r3⟩ := evOps_ok (P := P) hT hc ops.toList 0 σ [] [] (fun j o hj => by rw [Nat.zero_add, ← Array.getElem?_toList]; exact hj) (fun t d hd => by cases hd) y h1
  have r2' : r.length = ops.size := by rw [r2]; simp
  simp only [List.reverse_nil, List.nil_append] at r1
  subst r1
  have hrun : ∀ s0, s0 = look σ → _ := fun s0 hs0 => Run.at_ r3 (partAt y.2) s0 (fun j _ => by rw [Nat.zero_add]) (show s0 = look σ from hs0)
  obtain ⟨k1, k2⟩ := hrun _ rfl
  rw [Nat.zero_add, r2'] at k2
  have hok : ∀ (C : Ctx) (Q : Exit → Act → World → Prop) i, i < ops.size → ∀ s a w (K : Act → World → Prop), (∃ e, Rel C N e s a w) → (∀ p ∈ (partAt y.2 i).rd, s p.1 = p.2) → (∀ a' w', (∃ e, Rel C N e ((partAt y.2 i).upd s) a' w') → K a' w') → wpOp P ops Q i K a w := by
    intro C Q i hi s a w K hR hrd hK
    have hx : y.2[i]? = some (y.2[i]'(by omega)) := List.getElem?_eq_getElem (by omega)
    generalize hxx : y.2[i]'(by omega) = x at hx
    have hp := (k1 i x hx).2
    rw [Nat.zero_add] at hp
    have he : partAt y.2 i = partOf x := by unfold partAt; rw [hx]
    rw [he] at hrd hK
    refine hp C Q s a w K hR (fun l hl => hrd (l, look x.σ l) (List.mem_map.2 ⟨l, hl, rfl⟩)) fun a' w' hR' => hK a' w' ?_
    rw [upds_fns] at hR'
    exact hR'
  have htext : ∀ i, i < ops.size → ∀ p ∈ (partAt y.2 i).rd, stAt (partAt y.2) (look σ) (fun _ => true) i p.1 = p.2 := by
    intro i hi p hp
    have hx : y.2[i]? = some (y.2[i]'(by omega)) := List.getElem?_eq_getElem (by omega)
    generalize hxx : y.2[i]'(by omega) = x at hx
    have he : partAt y.2 i = partOf x := by unfold partAt; rw [hx]
    rw [he] at hp
    obtain ⟨l, _, rfl⟩ := List.mem_map.1 hp
    have := (k1 i x hx).1
    rw [Nat.zero_add] at this
    rw [this]
  cases draw with
  | false =>
    obtain rfl : y.1 = σ' := h2
    refine ⟨r3.ext, fun C e a w Q hR hQ => ?_⟩
    exact region_text (fun s a w => ∃ e, Rel C N e s a w) (partAt y.2) (look σ) (hok C Q) htext ⟨e, hR⟩ fun a' w' ⟨e', hR'⟩ => hQ e' a' w' (by rw [← k2]; exact hR')
  | true =>
    simp only [] at h2
    split at h2
    · rename_i hb
      rw [Bool.and_eq_true] at hb
      obtain rfl : y.1 = σ' := h2
      refine ⟨r3.ext, fun C e a w Q hR hQ => ?_⟩
      refine region_parts hm hb.1 (fun s a w => ∃ e, Rel C N e s a w) (partAt y.2) (look σ) (hok C Q) htext ?_ ⟨e, hR.drew⟩ fun a' w' ⟨e', hR'⟩ => hQ e' a' w' (by rw [← k2]; exact hR')
      intro i j hij hj x hx
      exact confB_ok hb.2 i j hij (by omega) x hx
    · exact h2.elim
end
end Sx
end Go.Proofs.YtmpilgkfbibhlaaGreatDoor
namespace Go.Proofs.YtmpilgkfbibhlaaGreatDoor
namespace Sx
open Go.RowKit
section
variable {P : Program} {tb : Tb}
inductive It where
 | code (c : Code)
 | blk (id : Nat)
inductive Out where
 | normal
 | exit (id : Nat)
 | ret
 | stop (k : List It)
def stackPost (P : Program) (Q : Exit → Act → World → Prop) : List It → Exit → Act → World → Prop
 | [] => Q
 | .code c :: k => Exit.then (fun a w => c.wp P (stackPost P Q k) a w) (stackPost P Q k)
 | .blk id :: k => Exit.inBlock id (stackPost P Q k)
theorem stackPost_append (Q : Exit → Act → World → Prop) (k k' : List It) : stackPost P Q (k ++ k') = stackPost P (stackPost P Q k') k := by
 induction k with
 | nil => rfl
 | cons x k ih => cases x <;> simp only [List.cons_append, stackPost, ih]
def Post (P : Program) (Q : Exit → Act → World → Prop) : Out → Act → World → Prop
 | .normal => Q .normal
 | .exit id => Q (.exit id)
 | .ret => Q .ret
 | .stop k => stackPost P Q k .normal
abbrev Leaf := Out × St
def CodeOk (P : Program) (N : Nat) (σ : St) (c : Code) (x : Leaf) : Prop :=
 ∀ (C : Ctx) (e : Env) (a : Act) (w : World) (Q : Exit → Act → World → Prop), Rel C N e (look σ) a w → (∀ e' a' w', Rel C N e' (look x.2) a' w' → Post P Q x.1 a' w') → c.wp P Q a w
/-! Ways that meet again. -/
structure WS (s : Sto) : Prop where
 tm : ∀ t v, s (.t t) = some (.sv v) → v.sc s
 cl : ∀ id off v, s (.c id off) = some (.cv v) → v.sc s ∧ ∃ t ro n cp, s (.k id) = some (.bk (.ar t ro n cp)) ∧ off < n
 cp : ∀ id b c es, s (.k id) = some (.bk b) → b.cp = some (c, es) → knn s c
theorem Rel.ws {C : Ctx} {N : Nat} {e : Env} {s : Sto} {a : Act} {w : World} (h : Rel C N e s a w) : WS s :=
 ⟨fun t v ht => (h.tm t v ht).2.2, fun id off v hv => ⟨(h.hp.cl id off v hv).1, (h.hp.cl id off v hv).2.1⟩, fun id b c es hb hc => (h.hp.cp id b c es hb hc).1⟩
structure Wk (s s' : Sto) : Prop where
 tm : ∀ t v, s' (.t t) = some (.sv v) → (∃ u, s (.t t) = some (.sv u) ∧ ∀ e, v.den e = u.den e) ∧ v.sc s'
 cl : ∀ id off v, s' (.c id off) = some (.cv v) → (∃ u, s (.c id off) = some (.cv u) ∧ ∀ e, v.den e = u.den e) ∧ v.sc s' ∧ ∃ t ro n cp, s' (.k id) = some (.bk (.ar t ro n cp)) ∧ off < n
 k : ∀ id b, s' (.k id) = some (.bk b) → b.live = true → s (.k id) = some (.bk b)
 cp : ∀ id b c es, s' (.k id) = some (.bk b) → b.cp = some (c, es) → knn s' c
theorem Hp.wk {C : Ctx} {e : Env} {s s' : Sto} {w : World} (h : Hp C e s w) (k : Wk s s') (hpin : (∀ id p, C.pin id = some p → kn s' id) ∧ ∀ c m, C.pinn c = some m → knn s' c) : Hp C e s' w := by
 have rl : ∀ b : BI, b.rw = true → b.live = true := fun b hb => by cases b <;> first | rfl | cases hb
 refine ⟨h.new, ?_, ?_, ?_, ?_, ?_, ?_, ?_, ⟨fun id p hp => ⟨(h.pin.1 id p hp).1, hpin.1 id p hp⟩, fun c m hm => ⟨(h.pin.2 c m hm).1, hpin.2 c m hm⟩⟩, h.fr⟩
 ·intro id off v hv
  obtain ⟨⟨u, hu, hd⟩, h2, h3⟩ := k.cl id off v hv
  exact ⟨h2, h3, (h.cl id off u hu).2.2.trans (by rw [hd])⟩
 ·intro id t n cp hb; exact h.ar id t n cp (k.k id _ hb rfl)
 ·intro id t ro n f cp hb; exact h.oq id t ro n f cp (k.k id _ hb rfl)
 ·intro id b c es hb hc
  have hl : b.live = true := by cases b <;> first | rfl | cases hc
  exact ⟨k.cp id b c es hb hc, (h.cp id b c es (k.k id b hb hl) hc).2⟩
 ·intro id id' b b' h1 h2 h3 h4; exact h.inj id id' b b' (k.k id b h1 (rl b h3)) (k.k id' b' h2 h4) h3 h4
 ·intro id b h1 h2; exact h.lt id b (k.k id b h1 h2) h2
 ·intro id b h1 h2; exact h.mu id b (k.k id b h1 (rl b h2)) h2
theorem Rel.wk {C : Ctx} {N : Nat} {e : Env} {s s' : Sto} {a : Act} {w : World} (h : Rel C N e s a w) (k : Wk s s') (hpin : (∀ id p, C.pin id = some p → kn s' id) ∧ ∀ c m, C.pinn c = some m → knn s' c) : Rel C N e s' a w := by
 refine ⟨h.sz, h.df, ?_, h.hp.wk k hpin⟩
 intro t v ht
 obtain ⟨⟨u, hu, hd⟩, h2⟩ := k.tm t v ht
 obtain ⟨h3, h4, _⟩ := h.tm t u hu
 exact ⟨h3, h4.trans (hd e).symm, h2⟩
def newL (σ x : St) : List Wr := x.lg.take (x.lg.length - σ.lg.length)
theorem newL_ext {σ x : St} (h : Ext σ x) : ∃ ws, σ.apps ws = some x ∧ newL σ x = ws.reverse := by
 obtain ⟨ws, h1, h2⟩ := h
 refine ⟨ws, h1, ?_⟩
 unfold newL
 rw [h2]
 simp
def tmD : List Wr → List Nat → List Nat
 | [], acc => acc
 | .tm n _ :: l, acc => tmD l (bif memb acc n then acc else n :: acc)
 | .ft n :: l, acc => tmD l (bif memb acc n then acc else n :: acc)
 | _ :: l, acc => tmD l acc
def memb2 : List (Nat × Nat) → Nat → Nat → Bool
 | [], _, _ => false
 | (a, b) :: l, n, m => match Nat.beq a n && Nat.beq b m with
  | true => true
  | false => memb2 l n m
def clD (σ : St) : List Wr → List (Nat × Nat) → List (Nat × Nat)
 | [], acc => acc
 | .cell id off _ :: l, acc => clD σ l (bif memb2 acc id off then acc else match alook σ.bk id with
  | some _ => (id, off) :: acc
  | none => acc)
 | _ :: l, acc => clD σ l acc
def noNew (σ : St) : List Wr → Bool
 | [] => true
 | .new id _ :: l => match alook σ.bk id with
  | some _ => false
  | none => noNew σ l
 | _ :: l => noNew σ l
def mTm (b : Bool) (x y : St) (t : Nat) : Wr := match alook x.tm t, alook y.tm t with
 | some v, some u => match Sv.ite b v u with
  | some z => .tm t z
  | none => .ft t
 | _, _ => .ft t
def cellAt (x : St) (id off : Nat) : Option Cv := (alook x.bk id).bind fun b => b.cell off
def mCl (b : Bool) (x y : St) : List (Nat × Nat) → Option (List Wr)
 | [] => some []
 | (id, off) :: l => match cellAt x id off, cellAt y id off, mCl b x y l with
  | some c, some d, some ws => match Cv.ite b c d with
   | some z => some (.cell id off z :: ws)
   | none => none
  | _, _, _ => none
def merge0 (σ : St) (b : Bool) (x y : St) : Option St :=
 let lx := newL σ x
 let ly := newL σ y
 match noNew σ lx && noNew σ ly with
 | true => match mCl b x y (clD σ ly (clD σ lx [])) with
  | some ws => fL fWr ((tmD ly (tmD lx [])).map (mTm b x y) ++ ws) fun ws => fapps ws σ id
  | none => none
 | false => none
theorem merge_eq {σ : St} {b : Bool} {x y : St} : merge0 σ b x y = match noNew σ (newL σ x) && noNew σ (newL σ y) with
  | true => match mCl b x y (clD σ (newL σ y) (clD σ (newL σ x) [])) with
   | some ws => σ.apps ((tmD (newL σ y) (tmD (newL σ x) [])).map (mTm b x y) ++ ws)
   | none => none
  | false => none := by
 simp only [merge0, fL_fWr, fapps_eq, id]
def litNe : Sv → Sv → Bool
 | .one (.i _ x true), .one (.i _ y true) => !(x == y)
 | _, _ => false
def okTm (σ : St) (b : Bool) (x y : St) : List Nat → Bool
 | [] => true
 | t :: l => match memb σ.vr t with
  | false => okTm σ b x y l
  | true => match alook x.tm t, alook y.tm t with
   | some v, some u => match Sv.ite b v u with
    | some _ => match memb σ.vr (t + 100000) with
     | true => match litNe v u with
      | true => false
      | false => okTm σ b x y l
     | false => okTm σ b x y l
    | none => false
   | _, _ => okTm σ b x y l
def merge (lo : Bool) (σ : St) (b : Bool) (x y : St) : Option St := match lo with
 | true => merge0 σ b x y
 | false => match okTm σ b x y (tmD (newL σ y) (tmD (newL σ x) [])) with
  | true => merge0 σ b x y
  | false => none
theorem merge_some {lo : Bool} {σ m x y : St} {b : Bool} (h : merge lo σ b x y = some m) : merge0 σ b x y = some m := by
 unfold merge at h
 split at h
 ·exact h
 ·split at h
  ·exact h
  ·cases h
theorem mem_tmD {n : Nat} : ∀ {l : List Wr} {acc : List Nat}, n ∈ acc ∨ (∃ v, Wr.tm n v ∈ l) ∨ Wr.ft n ∈ l → n ∈ tmD l acc
 | [], acc, h => by
  rcases h with h | ⟨v, h⟩ | h
  ·exact h
  ·cases h
  ·cases h
 | x :: l, acc, h => by
  have put : ∀ m, n ∈ acc ∨ n = m → n ∈ (bif memb acc m then acc else m :: acc) := by
   intro m hm
   cases hb : memb acc m with
   | true =>
    rcases hm with hm | rfl
    ·exact hm
    ·exact memb_iff.1 hb
   | false =>
    rcases hm with hm | rfl
    ·exact List.mem_cons_of_mem _ hm
    ·exact List.mem_cons_self
  cases x with
  | tm m u =>
   refine mem_tmD (l := l) ?_
   rcases h with h | ⟨v, h⟩ | h
   ·exact Or.inl (put m (Or.inl h))
   ·cases h with
    | head => exact Or.inl (put n (Or.inr rfl))
    | tail _ h => exact Or.inr (Or.inl ⟨v, h⟩)
   ·cases h with
    | tail _ h => exact Or.inr (Or.inr h)
  | ft m =>
   refine mem_tmD (l := l) ?_
   rcases h with h | ⟨v, h⟩ | h
   ·exact Or.inl (put m (Or.inl h))
   ·cases h with
    | tail _ h => exact Or.inr (Or.inl ⟨v, h⟩)
   ·cases h with
    | head => exact Or.inl (put n (Or.inr rfl))
    | tail _ h => exact Or.inr (Or.inr h)
  | _ =>
   refine mem_tmD (l := l) ?_
   rcases h with h | ⟨v, h⟩ | h
   ·exact Or.inl h
   ·cases h with
    | tail _ h => exact Or.inr (Or.inl ⟨v, h⟩)
   ·cases h with
    | tail _ h => exact Or.inr (Or.inr h)
theorem memb2_iff {l : List (Nat × Nat)} {n m : Nat} : memb2 l n m = true ↔ (n, m) ∈ l := by
 induction l with
 | nil => simp [memb2]
 | cons x l ih =>
  obtain ⟨a, b⟩ := x
  simp only [memb2]
  cases h : (Nat.beq a n && Nat.beq b m) with
  | true =>
   rw [Bool.and_eq_true, beq_iff', beq_iff'] at h
   obtain ⟨rfl, rfl⟩ := h
   simp
  | false =>
   simp only [ih, List.mem_cons, Prod.mk.injEq]
   constructor
   ·exact Or.inr
   ·rintro (⟨rfl, rfl⟩ | h')
    ·simp at h
    ·exact h'
theorem mem_clD {σ : St} {id off : Nat} (hk : (alook σ.bk id).isSome = true) : ∀ {l : List Wr} {acc : List (Nat × Nat)}, (id, off) ∈ acc ∨ (∃ v, Wr.cell id off v ∈ l) → (id, off) ∈ clD σ l acc
 | [], acc, h => by
  rcases h with h | ⟨v, h⟩
  ·exact h
  ·cases h
 | x :: l, acc, h => by
  cases x with
  | cell i o u =>
   refine mem_clD hk (l := l) ?_
   have put : (id, off) ∈ acc ∨ (id = i ∧ off = o) → (id, off) ∈ (bif memb2 acc i o then acc else match alook σ.bk i with | some _ => (i, o) :: acc | none => acc) := by
    intro hm
    cases hb : memb2 acc i o with
    | true =>
     rcases hm with hm | ⟨rfl, rfl⟩
     ·exact hm
     ·exact memb2_iff.1 hb
    | false =>
     simp only [cond_false]
     rcases hm with hm | ⟨rfl, rfl⟩
     ·split
      ·exact List.mem_cons_of_mem _ hm
      ·exact hm
     ·obtain ⟨z, hz⟩ := Option.isSome_iff_exists.1 hk
      rw [hz]
      exact List.mem_cons_self
   rcases h with h | ⟨v, h⟩
   ·exact Or.inl (put (Or.inl h))
   ·cases h with
    | head => exact Or.inl (put (Or.inr ⟨rfl, rfl⟩))
    | tail _ h => exact Or.inr ⟨v, h⟩
  | _ =>
   refine mem_clD hk (l := l) ?_
   rcases h with h | ⟨v, h⟩
   ·exact Or.inl h
   ·cases h with
    | tail _ h => exact Or.inr ⟨v, h⟩
theorem noNew_at {σ : St} {id : Nat} {b : Blk} : ∀ {l : List Wr}, noNew σ l = true → Wr.new id b ∈ l → alook σ.bk id = none
 | [], _, h => by cases h
 | x :: l, hn, h => by
  cases x with
  | new i c =>
   simp only [noNew] at hn
   split at hn
   ·cases hn
   ·rename_i hi
    cases h with
    | head => exact hi
    | tail _ h => exact noNew_at hn h
  | _ =>
   cases h with
   | tail _ h => exact noNew_at (l := l) hn h
theorem mCl_at {b : Bool} {x y : St} : ∀ {l : List (Nat × Nat)} {ws : List Wr}, mCl b x y l = some ws → (∀ z ∈ ws, ∃ id off c d e, z = .cell id off e ∧ cellAt x id off = some c ∧ cellAt y id off = some d ∧ Cv.ite b c d = some e) ∧ ∀ p ∈ l, ∃ e, Wr.cell p.1 p.2 e ∈ ws
 | [], ws, h => by
  obtain rfl := Option.some.inj h
  exact ⟨(fun z hz => absurd hz (by simp)), (fun p hp => absurd hp (by simp))⟩
 | (id, off) :: l, ws, h => by
  simp only [mCl] at h
  split at h
  ·rename_i c d ws' hc hd hw
   split at h
   ·rename_i e he
    obtain rfl := Option.some.inj h
    obtain ⟨r1, r2⟩ := mCl_at hw
    refine ⟨fun z hz => ?_, fun p hp => ?_⟩
    ·cases hz with
     | head => exact ⟨id, off, c, d, e, rfl, hc, hd, he⟩
     | tail _ hz => exact r1 z hz
    ·cases hp with
     | head => exact ⟨e, List.mem_cons_self⟩
     | tail _ hp => obtain ⟨e', he'⟩ := r2 p hp; exact ⟨e', List.mem_cons_of_mem _ he'⟩
   ·cases h
  ·cases h
theorem upds_same {s : Sto} {l : Loc} {ws : List Wr} (h : ∀ x ∈ ws, x.fn l = none) : upds s ws l = s l := by
 rw [upds_fns]
 have : fns ws l = none := by
  cases hf : fns ws l with
  | none => rfl
  | some y =>
   obtain ⟨x, hx, hx2⟩ := fns_some (ws := ws) (l := l) (by rw [hf]; rfl)
   rw [h x hx] at hx2; cases hx2
 show (fns ws l).getD (s l) = s l
 rw [this]; rfl
theorem upds_one {s : Sto} {l : Loc} {v : Option LV} {ws : List Wr} (hx : ∃ x ∈ ws, (x.fn l).isSome = true) (h : ∀ x ∈ ws, x.fn l = none ∨ x.fn l = some v) : upds s ws l = v := by
 rw [upds_fns]
 have : fns ws l = some v := by
  induction ws with
  | nil => obtain ⟨x, hx, _⟩ := hx; cases hx
  | cons y ws ih =>
   simp only [fns]
   cases hf : fns ws l with
   | some z =>
    have h' := fns_some (ws := ws) (l := l) (by rw [hf]; rfl)
    have := ih h' fun x hx => h x (List.mem_cons_of_mem _ hx)
    rw [hf] at this; exact this
   | none =>
    simp only []
    rcases h y List.mem_cons_self with h1 | h1
    ·obtain ⟨x, hxm, hx2⟩ := hx
     cases hxm with
     | head => rw [h1] at hx2; cases hx2
     | tail _ hxm =>
      exfalso
      have : (fns ws l).isSome = true := by
       clear ih h
       induction ws with
       | nil => cases hxm
       | cons z ws ih2 =>
        simp only [fns]
        cases hf2 : fns ws l with
        | some _ => rfl
        | none =>
         cases hxm with
         | head => exact hx2
         | tail _ hxm =>
          simp only [fns, hf2] at hf
          have := ih2 hf2 hxm
          rw [hf2] at this; cases this
      rw [hf] at this; cases this
    ·exact h1
 show (fns ws l).getD (s l) = v
 rw [this]; rfl
theorem mTm_tm {b : Bool} {x y : St} {t n : Nat} {r : Sv} (h : mTm b x y t = .tm n r) : ∃ p q, alook x.tm t = some p ∧ alook y.tm t = some q ∧ Sv.ite b p q = some r := by
 unfold mTm at h
 cases hp : alook x.tm t with
 | none => rw [hp] at h; cases h
 | some p =>
  cases hq : alook y.tm t with
  | none => rw [hp, hq] at h; cases h
  | some q =>
   rw [hp, hq] at h
   cases hr : Sv.ite b p q with
   | none => simp only [hr] at h; cases h
   | some r' =>
    simp only [hr] at h
    obtain ⟨_, rfl⟩ : t = n ∧ r' = r := by simpa using h
    exact ⟨p, q, rfl, rfl, hr⟩
theorem look_c_k {σ : St} {id off : Nat} {v : LV} (h : look σ (.c id off) = some v) : ∃ t ro n cp, look σ (.k id) = some (.bk (.ar t ro n cp)) ∧ off < n := by
 simp only [look] at h ⊢
 cases hb : alook σ.bk id with
 | none => rw [hb] at h; cases h
 | some b =>
  rw [hb] at h
  cases b with
  | ar t ro cs cp =>
   simp only [Option.bind_some, Blk.cell] at h
   refine ⟨t, ro, cs.length, cp, rfl, ?_⟩
   obtain ⟨c, hc, _⟩ := Option.map_eq_some_iff.1 h
   exact (List.getElem?_eq_some_iff.1 hc).1
  | oq t ro n f cp => cases h
  | gone => cases h
theorem look_k_c {σ : St} {id off n : Nat} {t : TypeId} {ro : Bool} {cp : Option (Nat × Nat)} (h : look σ (.k id) = some (.bk (.ar t ro n cp))) (ho : off < n) : ∃ c, look σ (.c id off) = some (.cv c) := by
 simp only [look] at h ⊢
 cases hb : alook σ.bk id with
 | none => rw [hb] at h; cases h
 | some b =>
  rw [hb] at h
  cases b with
  | ar t' ro' cs cp' =>
   simp only [Option.map_some, Blk.info, Option.some.injEq, LV.bk.injEq, BI.ar.injEq] at h
   obtain ⟨_, _, rfl, _⟩ := h
   exact ⟨cs[off], by simp [Blk.cell, ho]⟩
  | oq t' ro' n' f cp' => simp [Blk.info] at h
  | gone => simp [Blk.info] at h
theorem merge_wk {σ m x y : St} {b : Bool} (hws : WS (look σ)) (hx : Ext σ x) (hy : Ext σ y) (h : merge0 σ b x y = some m) (z : St) (hz : z = if b = true then x else y) : Wk (look z) (look m) ∧ Ext σ m ∧ Sub (look σ) (look m) := by
 rw [merge_eq] at h
 split at h
 ·rename_i hnn
  rw [Bool.and_eq_true] at hnn
  split at h
  ·rename_i ws hcl
   obtain ⟨wx, ax, lx⟩ := newL_ext hx
   obtain ⟨wy, ay, ly⟩ := newL_ext hy
   rw [lx, ly] at hnn hcl h
   obtain ⟨c1, c2⟩ := mCl_at hcl
   have hm := look_apps h
   generalize hT : tmD wy.reverse (tmD wx.reverse []) = T at *
   have hzs : ∃ wz, σ.apps wz = some z ∧ noNew σ wz.reverse = true ∧ (∀ n, (∃ v, Wr.tm n v ∈ wz) ∨ Wr.ft n ∈ wz → n ∈ T) ∧ ∀ id off v, (alook σ.bk id).isSome = true → Wr.cell id off v ∈ wz → (id, off) ∈ clD σ wy.reverse (clD σ wx.reverse []) := by
    cases b with
    | true =>
     obtain rfl : z = x := by simpa using hz
     refine ⟨wx, ax, hnn.1, fun n hn => ?_, fun id off v hk hv => mem_clD hk (Or.inl (mem_clD hk (Or.inr ⟨v, by simpa using hv⟩)))⟩
     rw [← hT]
     refine mem_tmD (Or.inl (mem_tmD (Or.inr ?_)))
     simpa using hn
    | false =>
     obtain rfl : z = y := by simpa using hz
     refine ⟨wy, ay, hnn.2, fun n hn => ?_, fun id off v hk hv => mem_clD hk (Or.inr ⟨v, by simpa using hv⟩)⟩
     rw [← hT]
     refine mem_tmD (Or.inr ?_)
     simpa using hn
   obtain ⟨wz, az, nz, tz, cz⟩ := hzs
   have lz := look_apps az
   -- what the merged state says of blocks and names is what σ says
   have mk : ∀ id, look m (.k id) = look σ (.k id) := by
    intro id; rw [hm]
    refine upds_same fun u hu => ?_
    rcases List.mem_append.1 hu with hu | hu
    ·obtain ⟨t, _, rfl⟩ := List.mem_map.1 hu
     unfold mTm; split
     ·split <;> rfl
     ·rfl
    ·obtain ⟨i, o, c, d, e, rfl, _⟩ := c1 u hu; rfl
   have mn : ∀ c, look m (.n c) = look σ (.n c) := by
    intro c; rw [hm]
    refine upds_same fun u hu => ?_
    rcases List.mem_append.1 hu with hu | hu
    ·obtain ⟨t, _, rfl⟩ := List.mem_map.1 hu
     unfold mTm; split
     ·split <;> rfl
     ·rfl
    ·obtain ⟨i, o, c, d, e, rfl, _⟩ := c1 u hu; rfl
   have hS : Sub (look σ) (look m) := ⟨fun id h => by unfold kn; rw [mk]; exact h, fun c h => by unfold knn; rw [mn]; exact h⟩
   have zk : ∀ id, (alook σ.bk id).isSome = true → look z (.k id) = look σ (.k id) := by
    intro id hid; rw [lz]
    refine upds_same fun u hu => ?_
    cases u with
    | new i c =>
     simp only [Wr.fn]
     rw [if_neg]
     rintro rfl
     have := noNew_at nz (by simpa using hu)
     rw [this] at hid; cases hid
    | _ => rfl
   have kin : ∀ id b', look σ (.k id) = some (.bk b') → (alook σ.bk id).isSome = true := by
    intro id b' hb
    simp only [look] at hb
    cases ha : alook σ.bk id with
    | none => rw [ha] at hb; cases hb
    | some _ => rfl
   have cin : ∀ id o v, look σ (.c id o) = some v → (alook σ.bk id).isSome = true := by
    intro id o v hb
    simp only [look] at hb
    cases ha : alook σ.bk id with
    | none => rw [ha] at hb; cases hb
    | some _ => rfl
   refine ⟨⟨?_, ?_, ?_, ?_⟩, Ext.apps h, hS⟩
   ·intro t v hv
    by_cases ht : t ∈ T
    ·-- written in one of them
     have hv2 : look m (.t t) = (match mTm b x y t with | .tm _ q => some (.sv q) | _ => none) := by
      rw [hm]
      have hfn : (mTm b x y t).fn (.t t) = some (match mTm b x y t with | .tm _ q => some (.sv q) | _ => none) := by
       unfold mTm
       split
       ·split <;> simp [Wr.fn]
       ·simp [Wr.fn]
      refine upds_one ⟨mTm b x y t, List.mem_append_left _ (List.mem_map.2 ⟨t, ht, rfl⟩), by rw [hfn]; rfl⟩ fun u hu => ?_
      rcases List.mem_append.1 hu with hu | hu
      ·obtain ⟨t', _, rfl⟩ := List.mem_map.1 hu
       by_cases e : t' = t
       ·subst e; exact Or.inr hfn
       ·refine Or.inl ?_
        unfold mTm
        split
        ·split <;> simp [Wr.fn, Ne.symm e]
        ·simp [Wr.fn, Ne.symm e]
      ·obtain ⟨i, o, c, d, e, rfl, _⟩ := c1 u hu; exact Or.inl rfl
     rw [hv2] at hv
     cases hmt : mTm b x y t with
     | tm n r =>
      rw [hmt] at hv
      obtain rfl : r = v := by simpa using hv
      obtain ⟨p, q, hp, hq, hr⟩ := mTm_tm hmt
      obtain ⟨d, sc⟩ := Sv.ite_den hr
      refine ⟨?_, sc _⟩
      cases b with
      | true =>
       obtain rfl : z = x := by simpa using hz
       exact ⟨p, by simp only [look, hp]; rfl, d⟩
      | false =>
       obtain rfl : z = y := by simpa using hz
       exact ⟨q, by simp only [look, hq]; rfl, d⟩
     | _ => rw [hmt] at hv; cases hv
    ·have hv2 : look m (.t t) = look σ (.t t) := by
      rw [hm]
      refine upds_same fun u hu => ?_
      rcases List.mem_append.1 hu with hu | hu
      ·obtain ⟨t', ht', rfl⟩ := List.mem_map.1 hu
       have e : t ≠ t' := fun e => ht (e ▸ ht')
       unfold mTm
       split
       ·split <;> simp [Wr.fn, e]
       ·simp [Wr.fn, e]
      ·obtain ⟨i, o, c, d, e, rfl, _⟩ := c1 u hu; rfl
     rw [hv2] at hv
     refine ⟨⟨v, ?_, fun _ => rfl⟩, (hws.tm t v hv).sub hS⟩
     rw [lz, ← hv]
     refine upds_same fun u hu => ?_
     cases u with
     | tm n q => simp only [Wr.fn]; rw [if_neg]; rintro rfl; exact ht (tz _ (Or.inl ⟨q, hu⟩))
     | ft n => simp only [Wr.fn]; rw [if_neg]; rintro rfl; exact ht (tz _ (Or.inr hu))
     | _ => rfl
   ·intro id off v hv
    have hinf : ∀ q, look σ (.c id off) = some (.cv q) → ∃ t ro n cp, look m (.k id) = some (.bk (.ar t ro n cp)) ∧ off < n := fun q hq => by
     obtain ⟨_, t, ro, n, cp, h1, h2⟩ := hws.cl id off q hq
     exact ⟨t, ro, n, cp, by rw [mk]; exact h1, h2⟩
    by_cases hin : ∃ e, Wr.cell id off e ∈ ws
    ·-- each that writes it writes one thing
     obtain ⟨e0, he0⟩ := hin
     obtain ⟨i0, o0, c0, d0, e0', h00, hcx, hcy, hce⟩ := c1 _ he0
     obtain ⟨rfl, rfl, rfl⟩ : id = i0 ∧ off = o0 ∧ e0 = e0' := by simpa using h00
     have hv2 : look m (.c id off) = some (.cv e0) := by
      rw [hm]
      refine upds_one ⟨.cell id off e0, List.mem_append_right _ he0, by simp [Wr.fn]⟩ fun u hu => ?_
      rcases List.mem_append.1 hu with hu | hu
      ·obtain ⟨t', _, rfl⟩ := List.mem_map.1 hu
       refine Or.inl ?_
       unfold mTm; split
       ·split <;> rfl
       ·rfl
      ·obtain ⟨i, o, c, d, e, rfl, g1, g2, g3⟩ := c1 u hu
       by_cases hio : id = i ∧ off = o
       ·obtain ⟨rfl, rfl⟩ := hio
        rw [hcx] at g1; rw [hcy] at g2
        obtain rfl := Option.some.inj g1
        obtain rfl := Option.some.inj g2
        rw [hce] at g3
        obtain rfl := Option.some.inj g3
        exact Or.inr (by simp [Wr.fn])
       ·refine Or.inl ?_
        simp only [Wr.fn]
        rw [if_neg hio]
     rw [hv2] at hv
     obtain rfl : e0 = v := by simpa using hv
     obtain ⟨d, sc⟩ := Cv.ite_den hce
     -- the cell was there
     have hkσ : ∃ q, look σ (.c id off) = some (.cv q) := by
      obtain ⟨t, ro, n, cp, g1, g2⟩ := look_c_k hv2
      rw [mk] at g1
      exact look_k_c g1 g2
     obtain ⟨q, hq⟩ := hkσ
     refine ⟨?_, sc _, hinf q hq⟩
     cases b with
     | true =>
      obtain rfl : z = x := by simpa using hz
      refine ⟨c0, ?_, d⟩
      simp only [look]
      unfold cellAt at hcx
      cases ha : alook z.bk id with
      | none => rw [ha] at hcx; cases hcx
      | some bb => rw [ha] at hcx; simp only [Option.bind_some] at hcx ⊢; rw [hcx]; rfl
     | false =>
      obtain rfl : z = y := by simpa using hz
      refine ⟨d0, ?_, d⟩
      simp only [look]
      unfold cellAt at hcy
      cases ha : alook z.bk id with
      | none => rw [ha] at hcy; cases hcy
      | some bb => rw [ha] at hcy; simp only [Option.bind_some] at hcy ⊢; rw [hcy]; rfl
    ·have hv2 : look m (.c id off) = look σ (.c id off) := by
      rw [hm]
      refine upds_same fun u hu => ?_
      rcases List.mem_append.1 hu with hu | hu
      ·obtain ⟨t', _, rfl⟩ := List.mem_map.1 hu
       unfold mTm; split
       ·split <;> rfl
       ·rfl
      ·obtain ⟨i, o, c, d, e, rfl, _⟩ := c1 u hu
       simp only [Wr.fn]
       rw [if_neg]
       rintro ⟨rfl, rfl⟩
       exact hin ⟨e, hu⟩
     rw [hv2] at hv
     refine ⟨⟨v, ?_, fun _ => rfl⟩, (hws.cl id off v hv).1.sub hS, hinf v hv⟩
     rw [lz, ← hv]
     have hid := cin id off _ hv
     refine upds_same fun u hu => ?_
     cases u with
     | cell i o q =>
      simp only [Wr.fn]
      rw [if_neg]
      rintro ⟨rfl, rfl⟩
      obtain ⟨e, he⟩ := c2 _ (cz _ _ q hid hu)
      exact hin ⟨e, he⟩
     | new i c =>
      simp only [Wr.fn]
      rw [if_neg]
      rintro rfl
      have := noNew_at nz (by simpa using hu)
      rw [this] at hid; cases hid
     | _ => rfl
   ·intro id b' hb hl
    rw [mk] at hb
    rw [zk id (kin id b' hb)]
    exact hb
   ·intro id b' c es hb hc
    rw [mk] at hb
    exact hS.2 c (hws.cp id b' c es hb hc)
  ·cases h
 ·cases h
end
end Sx
end Go.Proofs.YtmpilgkfbibhlaaGreatDoor
namespace Go.Proofs.YtmpilgkfbibhlaaGreatDoor
namespace Sx
open Go.RowKit
section
variable {P : Program} {tb : Tb}
def Tree.Every {α : Type} (p : α → Prop) : Tree α → Prop
 | .leaf x => p x
 | .br _ t f => t.Every p ∧ f.Every p
 | .must _ t => t.Every p
 | .fail => True
theorem Tree.Every.bind {α β : Type} {p : β → Prop} {g : α → Tree β} : ∀ {t : Tree α}, t.Every (fun x => (g x).Every p) → (t.bind g).Every p
 | .leaf _, h => h
 | .br _ _ _, h => ⟨h.1.bind, h.2.bind⟩
 | .must _ t, h => Tree.Every.bind (t := t) h
 | .fail, _ => trivial
theorem Tree.Every.mono {α : Type} {p q : α → Prop} (h : ∀ x, p x → q x) : ∀ {t : Tree α}, t.Every p → t.Every q
 | .leaf x, k => h x k
 | .br _ _ _, k => ⟨k.1.mono h, k.2.mono h⟩
 | .must _ t, k => Tree.Every.mono (t := t) h k
 | .fail, _ => trivial
theorem Tree.Every.at_ {α : Type} {p : α → Prop} {x : α} : ∀ {t : Tree α}, t.Every p → t.At x → p x
 | .leaf _, h, k => by obtain rfl := k; exact h
 | .br _ _ _, h, k => by
  rcases k with ⟨_, k⟩ | ⟨_, k⟩
  ·exact h.1.at_ k
  ·exact h.2.at_ k
 | .must _ t, h, k => Tree.Every.at_ (t := t) h k.2
 | .fail, _, k => k.elim
theorem Tree.every_true {α : Type} : ∀ {t : Tree α}, t.Every fun _ => True
 | .leaf _ => trivial
 | .br _ _ _ => ⟨Tree.every_true, Tree.every_true⟩
 | .must _ t => Tree.every_true (t := t)
 | .fail => trivial
theorem finish_every {N : Nat} {σ : St} {kn : Kn} {dst : Option Tmp} {pre : List Loc} {E : OpE} : (finish N σ kn dst pre E).Every fun x => Ext σ x.σ := by
 rw [finish_eq]
 split
 ·split
  ·rename_i h; exact Ext.apps h
  ·trivial
 ·trivial
theorem evOp_every {wf : List FuncId} {call : CallF} {N : Nat} {ops : Array Oper} {σ : St} {kn : Kn} {o : Oper} : (evOp tb wf call N ops σ kn o).Every fun x => Ext σ x.σ := by
 have yes : ∀ (t : Tree OpE) (kn : Kn) (pre : List Loc), (t.bind (finish N σ kn o.dst pre)).Every fun x => Ext σ x.σ := fun t kn pre => Tree.Every.bind (Tree.every_true.mono fun _ _ => finish_every)
 unfold evOp
 simp only []
 split
 ·exact yes _ _ _
 ·split
  ·trivial
  ·split
   ·split
    ·split
     ·exact yes _ _ _
     ·exact finish_every
    ·split
     ·split
      ·exact yes _ _ _
      ·exact finish_every
     ·split
      ·exact ⟨yes _ _ _, finish_every⟩
      ·exact ⟨finish_every, yes _ _ _⟩
   ·exact finish_every
   ·trivial
theorem evOps_every {wf : List FuncId} {call : CallF} {N : Nat} {ops : Array Oper} : ∀ {l : List Oper} {σ : St} {kn : Kn} {acc : List Tr}, (evOps tb wf call N ops l σ kn acc).Every fun x => Ext σ x.1
 | [], σ, _, _ => Ext.refl σ
 | _ :: _, _, _, _ => Tree.Every.bind (evOp_every.mono fun _ hx => evOps_every.mono fun _ hy => hx.trans hy)
theorem evReg_every {wf : List FuncId} {call : CallF} {N : Nat} {ops : Array Oper} {draw : Bool} {σ : St} : (evReg tb wf call N ops draw σ).Every fun x => Ext σ x := by
 refine Tree.Every.bind (evOps_every.mono fun x hx => ?_)
 split
 ·exact hx
 ·split
  ·exact hx
  ·trivial
def peel : Tree Leaf → Option (List Bool × Leaf)
 | .leaf x => some ([], x)
 | .must b t => (peel t).map fun p => (b :: p.1, p.2)
 | _ => none
def musts {α : Type} : List Bool → Tree α → Tree α
 | [], t => t
 | b :: l, t => .must b (musts l t)
theorem At_musts {α : Type} {x : α} {t : Tree α} : ∀ {l : List Bool}, (musts l t).At x ↔ (∀ b ∈ l, b = true) ∧ t.At x
 | [] => by simp [musts]
 | b :: l => by
  simp only [musts, Tree.At, At_musts (l := l), List.mem_cons, forall_eq_or_imp]
  exact ⟨fun ⟨a, b, c⟩ => ⟨⟨a, b⟩, c⟩, fun ⟨⟨a, b⟩, c⟩ => ⟨a, b, c⟩⟩
theorem peel_at {l : List Bool} {x : Leaf} : ∀ {t : Tree Leaf}, peel t = some (l, x) → (∀ b ∈ l, b = true) → t.At x
 | .leaf y, h, _ => by
  obtain ⟨_, rfl⟩ := Prod.mk.inj (Option.some.inj h)
  rfl
 | .must b t, h, hl => by
  obtain ⟨p, hp, he⟩ := Option.map_eq_some_iff.1 h
  obtain ⟨rfl, rfl⟩ := Prod.mk.inj he
  exact ⟨hl b List.mem_cons_self, peel_at hp fun c hc => hl c (List.mem_cons_of_mem _ hc)⟩
 | .br _ _ _, h, _ => by cases h
 | .fail, h, _ => by cases h
theorem peel_every {p : Leaf → Prop} {l : List Bool} {x : Leaf} : ∀ {t : Tree Leaf}, peel t = some (l, x) → t.Every p → p x
 | .leaf y, h, k => by
  obtain ⟨_, rfl⟩ := Prod.mk.inj (Option.some.inj h)
  exact k
 | .must b t, h, k => by
  obtain ⟨q, hq, he⟩ := Option.map_eq_some_iff.1 h
  obtain ⟨_, rfl⟩ := Prod.mk.inj he
  exact peel_every (t := t) hq k
 | .br _ _ _, h, _ => by cases h
 | .fail, h, _ => by cases h
theorem every_musts {α : Type} {p : α → Prop} {t : Tree α} : ∀ {l : List Bool}, t.Every p → (musts l t).Every p
 | [], h => h
 | _ :: l, h => every_musts (l := l) h
def outEq : Out → Out → Bool
 | .normal, .normal => true
 | .ret, .ret => true
 | .exit i, .exit j => Nat.beq i j
 | _, _ => false
theorem outEq_eq {a b : Out} (h : outEq a b = true) : a = b := by
 cases a <;> cases b <;> simp only [outEq] at h <;> first
  | rfl
  | cases h; done
  | (rw [beq_iff'.1 h])
def join2 (lo : Bool) (σ : St) (b : Bool) (t f : Tree Leaf) : Tree Leaf := match peel t, peel f with
 | some (mt, (o1, x)), some (mf, (o2, y)) => match outEq o1 o2 with
  | true => match merge lo σ b x y with
   | some m => musts (mt.map fun q => !b || q) (musts (mf.map fun q => b || q) (.leaf (o1, m)))
   | none => .br b t f
  | false => .br b t f
 | _, _ => .br b t f
def joinT (lo : Bool) (σ : St) : Tree Leaf → Tree Leaf
 | .leaf x => .leaf x
 | .must b t => .must b (joinT lo σ t)
 | .br b t f => join2 lo σ b (joinT lo σ t) (joinT lo σ f)
 | .fail => .fail
theorem merge_ext {σ m x y : St} {b : Bool} (h : merge0 σ b x y = some m) : Ext σ m := by
 rw [merge_eq] at h
 split at h
 ·split at h
  ·exact Ext.apps h
  ·cases h
 ·cases h
theorem join2_every {lo : Bool} {σ : St} {b : Bool} {t f : Tree Leaf} (ht : t.Every fun x => Ext σ x.2) (hf : f.Every fun x => Ext σ x.2) : (join2 lo σ b t f).Every fun x => Ext σ x.2 := by
 unfold join2
 split
 ·split
  ·split
   ·rename_i hm; exact every_musts (every_musts (merge_ext (merge_some hm)))
   ·exact ⟨ht, hf⟩
  ·exact ⟨ht, hf⟩
 ·exact ⟨ht, hf⟩
theorem joinT_every {lo : Bool} {σ : St} : ∀ {T : Tree Leaf}, (T.Every fun x => Ext σ x.2) → (joinT lo σ T).Every fun x => Ext σ x.2
 | .leaf _, h => h
 | .must _ t, h => joinT_every (T := t) h
 | .br _ _ _, h => join2_every (joinT_every h.1) (joinT_every h.2)
 | .fail, _ => trivial
def RelTo (σ x y : St) : Prop := ∀ (C : Ctx) (N : Nat) (e : Env) (a : Act) (w : World), ((∀ id p, C.pin id = some p → kn (look σ) id) ∧ ∀ c m, C.pinn c = some m → knn (look σ) c) → Rel C N e (look x) a w → Rel C N e (look y) a w
theorem RelTo.refl (σ x : St) : RelTo σ x x := fun _ _ _ _ _ _ h => h
theorem RelTo.trans {σ x y z : St} (h : RelTo σ x y) (k : RelTo σ y z) : RelTo σ x z := fun C N e a w hp hr => k C N e a w hp (h C N e a w hp hr)
def Stands (σ : St) (T : Tree Leaf) (y : Leaf) : Prop := ∃ x, T.At x ∧ x.1 = y.1 ∧ (WS (look σ) → RelTo σ x.2 y.2)
theorem join2_ok {lo : Bool} {σ : St} {b : Bool} {t f : Tree Leaf} (ht : t.Every fun x => Ext σ x.2) (hf : f.Every fun x => Ext σ x.2) {y : Leaf} (h : (join2 lo σ b t f).At y) : Stands σ (.br b t f) y := by
 have self : (Tree.br b t f).At y → Stands σ (.br b t f) y := fun hy => ⟨y, hy, rfl, fun _ => RelTo.refl _ _⟩
 unfold join2 at h
 split at h
 ·rename_i mt o1 x mf o2 z hpt hpf
  split at h
  ·rename_i ho
   split at h
   ·rename_i m hm
    rw [At_musts, At_musts] at h
    obtain ⟨h1, h2, h3⟩ := h
    obtain rfl : (o1, m) = y := h3
    have hoe := outEq_eq ho
    have ex : Ext σ x := peel_every hpt ht
    have ez : Ext σ z := peel_every hpf hf
    have key : ∀ {X : Leaf}, X = (if b = true then (o1, x) else (o2, z)) → (Tree.br b t f).At X → Stands σ (.br b t f) (o1, m) := by
     intro X hX hAt
     refine ⟨X, hAt, ?_, ?_⟩
     ·rw [hX]; cases b
      ·exact hoe.symm
      ·rfl
     ·intro hws C N e a w hp hr
      obtain ⟨k1, _, k3⟩ := merge_wk hws ex ez (merge_some hm) (if b = true then x else z) rfl
      have hx2 : X.2 = if b = true then x else z := by rw [hX]; cases b <;> rfl
      rw [hx2] at hr
      exact hr.wk k1 ⟨fun id p hh => k3.1 id (hp.1 id p hh), fun c q hh => k3.2 c (hp.2 c q hh)⟩
    by_cases hb : b = true
    ·refine key (X := (o1, x)) (by rw [if_pos hb]) (Or.inl ⟨hb, peel_at hpt fun q hq => ?_⟩)
     have := h1 _ (List.mem_map.2 ⟨q, hq, rfl⟩)
     rw [hb] at this; simpa using this
    ·have hb' : b = false := by simpa using hb
     refine key (X := (o2, z)) (by rw [if_neg hb]) (Or.inr ⟨hb', peel_at hpf fun q hq => ?_⟩)
     have := h2 _ (List.mem_map.2 ⟨q, hq, rfl⟩)
     rw [hb'] at this; simpa using this
   ·exact self h
  ·exact self h
 ·exact self h
theorem joinT_ok {lo : Bool} {σ : St} : ∀ {T : Tree Leaf} {y : Leaf}, (T.Every fun x => Ext σ x.2) → (joinT lo σ T).At y → Stands σ T y
 | .leaf x, y, _, h => ⟨y, h, rfl, fun _ => RelTo.refl _ _⟩
 | .must b t, y, he, h => by
  obtain ⟨x, h1, h2, h3⟩ := joinT_ok (T := t) he h.2
  exact ⟨x, ⟨h.1, h1⟩, h2, h3⟩
 | .br b t f, y, he, h => by
  obtain ⟨x, h1, h2, h3⟩ := join2_ok (joinT_every he.1) (joinT_every he.2) h
  rcases h1 with ⟨hb, h1⟩ | ⟨hb, h1⟩
  ·obtain ⟨z, k1, k2, k3⟩ := joinT_ok he.1 h1
   exact ⟨z, Or.inl ⟨hb, k1⟩, k2.trans h2, fun hw => (k3 hw).trans (h3 hw)⟩
  ·obtain ⟨z, k1, k2, k3⟩ := joinT_ok he.2 h1
   exact ⟨z, Or.inr ⟨hb, k1⟩, k2.trans h2, fun hw => (k3 hw).trans (h3 hw)⟩
 | .fail, _, _, h => h.elim
theorem CodeOk.stands {N : Nat} {σ : St} {c : Code} {T : Tree Leaf} {y : Leaf} (h : ∀ x, T.At x → CodeOk P N σ c x) (hs : Stands σ T y) : CodeOk P N σ c y := by
 obtain ⟨x, h1, h2, h3⟩ := hs
 intro C e a w Q hR hQ
 refine h x h1 C e a w Q hR fun e' a' w' hR' => ?_
 rw [h2]
 exact hQ e' a' w' (h3 hR.ws C N e' a' w' ⟨fun id p hp => (hR.hp.pin.1 id p hp).2, fun c m hm => (hR.hp.pin.2 c m hm).2⟩ hR')
def evL (f : St → Tree Leaf) : Nat → St → Tree Leaf
 | 0, _ => .fail
 | m + 1, σ => (f σ).bind fun x => match x.1 with
  | .normal => evL f m x.2
  | .stop _ => .fail
  | _ => .leaf x
def blkOut (id : Nat) (x : Leaf) : Leaf := match x.1 with
 | .exit i => match Nat.beq i id with
  | true => (.normal, x.2)
  | false => x
 | .stop k => (.stop (k ++ [.blk id]), x.2)
 | _ => x
def evC (tb : Tb) (wf : List FuncId) (call : CallF) (N : Nat) (stops : List Nat) : Nat → Code → St → Tree Leaf
 | 0, _, _ => .fail
 | n + 1, c, σ => match c with
  | .skip => .leaf (.normal, σ)
  | .label _ => .leaf (.normal, σ)
  | .region _ ops draw => joinT false σ ((evReg tb wf call N ops draw σ).bind fun σ' => .leaf (.normal, σ'))
  | .seq a b => (evC tb wf call N stops n a σ).bind fun x => match x.1 with
   | .normal => evC tb wf call N stops n b x.2
   | .stop k => .leaf (.stop (k ++ [.code b]), x.2)
   | _ => .leaf x
  | .cond c a b => match evO σ c with
   | some (.one (.b v true)) => match v with
    | true => evC tb wf call N stops n a σ
    | false => evC tb wf call N stops n b σ
   | some (.one (.b v false)) => join2 false σ v (evC tb wf call N stops n a σ) (evC tb wf call N stops n b σ)
   | _ => .fail
  | .block id body => match memb stops id with
   | true => .leaf (.stop [.code (.block id body)], σ)
   | false => joinT (memb σ.vr 99999) σ ((evC tb wf call N stops n body σ).bind fun x => .leaf (blkOut id x))
  | .loop body => evL (evC tb wf call N stops n body) n σ
  | .exit id => .leaf (.exit id, σ)
  | .ret => .leaf (.ret, σ)
  | _ => .fail
theorem blkOut_2 (id : Nat) (x : Leaf) : (blkOut id x).2 = x.2 := by
 unfold blkOut
 split
 ·split <;> rfl
 ·rfl
 ·rfl
theorem evL_every {f : St → Tree Leaf} (hf : ∀ σ, (f σ).Every fun x => Ext σ x.2) : ∀ {n : Nat} {σ : St}, (evL f n σ).Every fun x => Ext σ x.2
 | 0, _ => trivial
 | n + 1, σ => by
  refine Tree.Every.bind ((hf σ).mono fun x hx => ?_)
  split
  ·exact (evL_every hf (n := n)).mono fun y hy => hx.trans hy
  ·trivial
  ·exact hx
theorem evC_every {wf : List FuncId} {call : CallF} {N : Nat} {stops : List Nat} : ∀ {n : Nat} {c : Code} {σ : St}, (evC tb wf call N stops n c σ).Every fun x => Ext σ x.2
 | 0, _, _ => trivial
 | n + 1, c, σ => by
  have ih : ∀ {c : Code} {σ : St}, (evC tb wf call N stops n c σ).Every fun x => Ext σ x.2 := evC_every (n := n)
  cases c with
  | skip => exact Ext.refl σ
  | label l => exact Ext.refl σ
  | region id ops draw => exact joinT_every (Tree.Every.bind (evReg_every.mono fun _ h => h))
  | seq a b =>
   refine Tree.Every.bind (ih.mono fun x hx => ?_)
   split
   ·exact ih.mono fun y hy => hx.trans hy
   ·exact hx
   ·exact hx
  | cond c a b =>
   simp only [evC]
   split
   ·split
    ·exact ih
    ·exact ih
   ·exact join2_every ih ih
   ·trivial
  | block id body =>
   simp only [evC]
   split
   ·exact Ext.refl σ
   ·refine joinT_every (Tree.Every.bind (ih.mono fun x hx => ?_))
    show Ext σ (blkOut id x).2
    rw [blkOut_2]; exact hx
  | loop body => exact evL_every fun _ => ih
  | exit id => exact Ext.refl σ
  | ret => exact Ext.refl σ
  | _ => trivial
theorem evL_ok {N : Nat} {f : St → Tree Leaf} {body : Code} (hf : ∀ σ x, (f σ).At x → CodeOk P N σ body x) : ∀ (n : Nat) (σ : St) (y : Leaf), (evL f n σ).At y →
  ∀ (C : Ctx) (e : Env) (a : Act) (w : World) (Q : Exit → Act → World → Prop), Rel C N e (look σ) a w → (∀ e' a' w', Rel C N e' (look y.2) a' w' → Post P Q y.1 a' w') → Code.rounds P body Q n a w
 | 0, σ, y, h => h.elim
 | n + 1, σ, y, h => by
  intro C e a w Q hR hQ
  rw [rounds_succ]
  obtain ⟨x, h1, h2⟩ := Tree.At_bind.1 h
  refine hf σ x h1 C e a w _ hR fun e' a' w' hR' => ?_
  split at h2
  ·rename_i hx
   rw [hx]
   exact evL_ok hf n x.2 y h2 C e' a' w' Q hR' hQ
  ·exact h2.elim
  ·rename_i hn hs
   obtain rfl : x = y := h2
   have := hQ e' a' w' hR'
   cases hx : x.1 with
   | normal => exact absurd hx hn
   | stop k => exact absurd hx (hs k)
   | exit i => rw [hx] at this; exact this
   | ret => rw [hx] at this; exact this
theorem evC_ok {wf : List FuncId} {call : CallF} {N : Nat} {stops : List Nat} (hT : TbOk P tb) (hm : P.follows .mixedOrders = true) (hc : CallFOk P call) : ∀ (n : Nat) (c : Code) (σ : St) (y : Leaf), (evC tb wf call N stops n c σ).At y → CodeOk P N σ c y
 | 0, _, _, _, h => h.elim
 | n + 1, c, σ, y, h => by
  have ih := evC_ok (wf := wf) (N := N) (stops := stops) hT hm hc n
  cases c with
  | skip => obtain rfl : _ = y := h; exact fun C e a w Q hR hQ => wp_skip (hQ e a w hR)
  | label l => obtain rfl : _ = y := h; exact fun C e a w Q hR hQ => wp_label (hQ e a w hR)
  | region id ops draw =>
   refine CodeOk.stands (fun x hx => ?_) (joinT_ok (Tree.Every.bind (evReg_every.mono fun _ h => h)) h)
   obtain ⟨σ', h1, h2⟩ := Tree.At_bind.1 hx
   obtain rfl : _ = x := h2
   obtain ⟨_, k⟩ := evReg_ok (id := id) hT hm hc h1
   exact fun C e a w Q hR hQ => k C e a w Q hR hQ
  | seq a b =>
   obtain ⟨x, h1, h2⟩ := Tree.At_bind.1 h
   intro C e a' w Q hR hQ
   refine wp_seq (ih a σ x h1 C e a' w _ hR fun e' a' w' hR' => ?_)
   split at h2
   ·rename_i hx
    rw [hx]
    exact ih b x.2 y h2 C e' a' w' Q hR' hQ
   ·rename_i k hx
    obtain rfl : _ = y := h2
    rw [hx]
    have := hQ e' a' w' hR'
    simp only [Post] at this ⊢
    rw [stackPost_append] at this
    exact this
   ·rename_i hn hs
    obtain rfl : x = y := h2
    have := hQ e' a' w' hR'
    cases hx : x.1 with
    | normal => exact absurd hx hn
    | stop k => exact absurd hx (hs k)
    | exit i => rw [hx] at this; exact this
    | ret => rw [hx] at this; exact this
  | cond c a b =>
   simp only [evC] at h
   have hev : ∀ {v l : Bool}, evO σ c = some (.one (.b v l)) → ∀ (C : Ctx) (e : Env) (a : Act) (w : World), Rel C N e (look σ) a w → a.eval c = .bool v := fun hv C e a w hR => (sees_of hR (x := c) (fun _ _ => rfl) _ hv).1
   split at h
   ·rename_i v hv
    split at h
    ·exact fun C e a' w Q hR hQ => wp_cond (hev hv C e a' w hR) (ih a σ y h C e a' w Q hR hQ)
    ·exact fun C e a' w Q hR hQ => wp_cond (hev hv C e a' w hR) (ih b σ y h C e a' w Q hR hQ)
   ·rename_i v hv
    refine CodeOk.stands (T := .br v (evC tb wf call N stops n a σ) (evC tb wf call N stops n b σ)) (fun x hx => ?_) (join2_ok evC_every evC_every h)
    rcases hx with ⟨hb, hx⟩ | ⟨hb, hx⟩
    ·intro C e a' w Q hR hQ
     refine wp_cond (hev hv C e a' w hR) ?_
     rw [hb]
     exact ih a σ x hx C e a' w Q hR hQ
    ·intro C e a' w Q hR hQ
     refine wp_cond (hev hv C e a' w hR) ?_
     rw [hb]
     exact ih b σ x hx C e a' w Q hR hQ
   ·exact h.elim
  | block id body =>
   simp only [evC] at h
   split at h
   ·obtain rfl : _ = y := h
    exact fun C e a w Q hR hQ => hQ e a w hR
   ·refine CodeOk.stands (fun x hx => ?_) (joinT_ok (Tree.Every.bind (evC_every.mono fun x hx => by show Ext σ (blkOut id x).2; rw [blkOut_2]; exact hx)) h)
    obtain ⟨z, h1, h2⟩ := Tree.At_bind.1 hx
    obtain rfl : _ = x := h2
    intro C e a w Q hR hQ
    refine wp_block (ih body σ z h1 C e a w _ hR fun e' a' w' hR' => ?_)
    have := hQ e' a' w' (by rw [blkOut_2]; exact hR')
    unfold blkOut at this
    cases hz : z.1 with
    | normal => rw [hz] at this; simp only [] at this; rw [hz] at this; exact this
    | ret => rw [hz] at this; simp only [] at this; rw [hz] at this; exact this
    | exit i =>
     rw [hz] at this
     simp only [] at this
     show (if i = id then Q .normal a' w' else Q (.exit i) a' w')
     split at this
     ·rename_i hb; rw [if_pos (beq_iff'.1 hb)]; exact this
     ·rename_i hb; rw [if_neg (beq_ff.1 hb)]; rw [hz] at this; exact this
    | stop k =>
     rw [hz] at this
     simp only [Post] at this ⊢
     rw [stackPost_append] at this
     exact this
  | loop body =>
   intro C e a w Q hR hQ
   exact wp_loop_rounds n (evL_ok (fun σ x hx => ih body σ x hx) n σ y h C e a w Q hR hQ)
  | exit id => obtain rfl : _ = y := h; exact fun C e a w Q hR hQ => wp_exit (hQ e a w hR)
  | ret => obtain rfl : _ = y := h; exact fun C e a w Q hR hQ => wp_ret (hQ e a w hR)
  | _ => exact h.elim
end
end Sx
end Go.Proofs.YtmpilgkfbibhlaaGreatDoor
namespace Go.Proofs.YtmpilgkfbibhlaaGreatDoor
namespace Sx
open Go.RowKit
section
variable {P : Program} {tb : Tb}
/-! What is handed back. -/
def resV (tb : Tb) (σ : St) : ResultVar → Option Sv
 | .tmp t => alook σ.tm t
 | .cell a t => match alook σ.tm a with
  | some (.one (.ptr id (.lit k))) => match alook σ.bk id with
   | some (.ar _ _ cs _) => match tb.agg t, tb.info t with
    | some false, _ => (cs[k]?).map .one
    | some true, some i => match Nat.ble (k + i.size) cs.length with
     | true => some (.agg ((cs.drop k).take i.size))
     | false => none
    | _, _ => none
   | _ => none
  | _ => none
def comp : Sv → Option (Bool × List Cv)
 | .one c => some (false, [c])
 | .agg cs => some (true, cs)
 | .tup _ => none
theorem comp_den {v : Sv} {p : Bool × List Cv} (h : comp v = some p) : (∀ e, compDen e p = v.den e) ∧ ∀ s, v.sc s → scs s p.2 := by
 cases v with
 | one c =>
  obtain rfl := Option.some.inj h
  refine ⟨fun e => rfl, fun s hs x hx => ?_⟩
  obtain rfl : x = c := by simpa using hx
  exact hs
 | agg cs => obtain rfl := Option.some.inj h; exact ⟨fun e => rfl, fun s hs => hs⟩
 | tup _ => cases h
def comps (tb : Tb) (σ : St) : List ResultVar → Option (List (Bool × List Cv))
 | [] => some []
 | r :: rs => match (resV tb σ r).bind comp, comps tb σ rs with
  | some p, some ps => some (p :: ps)
  | _, _ => none
def evRes (tb : Tb) (σ : St) : List ResultVar → Option Sv
 | [r] => resV tb σ r
 | rs => (comps tb σ rs).map .tup
def resRun (tmps : Array Value) : ResultVar → Sem Value
 | .tmp t => pure (tmps.getD t undef)
 | .cell p t => do loadVar t (← asAddr (tmps.getD p undef))
theorem resV_run (hT : TbOk P tb) {C : Ctx} {N : Nat} {e : Env} {σ : St} {a : Act} {w : World} (hR : Rel C N e (look σ) a w) {r : ResultVar} {v : Sv} (h : resV tb σ r = some v) :
  (resRun a.tmps r).run P w = .ok (v.den e) w ∧ v.sc (look σ) := by
 cases r with
 | tmp t =>
  have h1 : look σ (.t t) = some (.sv v) := by simp only [look]; rw [show alook σ.tm t = some v from h]; rfl
  obtain ⟨_, h2, h3⟩ := hR.tm t v h1
  exact ⟨by rw [← h2]; rfl, h3⟩
 | cell p t =>
  simp only [resV] at h
  split at h
  ·rename_i id k hp
   have h1 : look σ (.t p) = some (.sv (.one (.ptr id (.lit k)))) := by simp only [look, hp]; rfl
   obtain ⟨_, h2, _⟩ := hR.tm p _ h1
   split at h
   ·rename_i t' ro cs cp hb
    have hcell : ∀ j c, cs[j]? = some c → w.cell? (e.ad id j) = some (c.den e) ∧ c.sc (look σ) := by
     intro j c hc
     have h3 : look σ (.c id j) = some (.cv c) := by simp only [look, hb, Option.bind_some, Blk.cell, hc, Option.map_some]
     obtain ⟨h4, _, h5⟩ := hR.hp.cl id j c h3
     exact ⟨h5, h4⟩
    split at h
    ·rename_i ha
     obtain ⟨c, hc, rfl⟩ := Option.map_eq_some_iff.1 h
     obtain ⟨h3, h4⟩ := hcell k c hc
     refine ⟨?_, h4⟩
     simp only [resRun, Sem.run_bind, h2, den_ptr, asAddr, Sem.run_pure, Result.andThen_ok, loadVar, run_agg hT ha, Bool.false_eq_true, if_false, run_load]
     rw [show Sn.den e (.lit k) = k from rfl, h3]
     rfl
    ·rename_i i ha hi
     split at h
     ·rename_i hle
      rw [Nat.ble_eq] at hle
      obtain rfl := Option.some.inj h
      have hr := run_loadCells (P := P) w (e.ad id k) i.size (fun j => (cs.getD (k + j) (.val undef)).den e) (fun j hj => by
       rw [ad_add]
       have hlt : k + j < cs.length := by omega
       exact (hcell (k + j) _ (by simp [hlt])).1)
      refine ⟨?_, fun c hc => ?_⟩
      ·simp only [resRun, Sem.run_bind, h2, den_ptr, asAddr, Sem.run_pure, Result.andThen_ok, loadVar, run_agg hT ha, if_true, run_size hT hi]
       rw [show Sn.den e (.lit k) = k from rfl, hr]
       try simp only [Result.andThen_ok, den_agg]
       show Result.ok (Value.agg _) w = Result.ok (Value.agg _) w
       congr 2
       unfold densA
       congr 1
       apply List.ext_getElem?
       intro j
       by_cases hj : j < i.size
       ·have hlt : k + j < cs.length := by omega
        rw [List.getElem?_map, List.getElem?_range hj, List.getElem?_map, List.getElem?_take_of_lt hj, List.getElem?_drop]
        simp [hlt]
       ·rw [List.getElem?_eq_none (by simp; omega), List.getElem?_eq_none (by simp; omega)]
      ·obtain ⟨j, hj⟩ := List.mem_iff_getElem?.1 (List.mem_of_mem_drop (List.mem_of_mem_take hc))
       exact (hcell j c hj).2
     ·cases h
    ·cases h
   ·cases h
  ·cases h
theorem comps_run (hT : TbOk P tb) {C : Ctx} {N : Nat} {e : Env} {σ : St} {a : Act} {w : World} (hR : Rel C N e (look σ) a w) : ∀ {rs : List ResultVar} {ps : List (Bool × List Cv)}, comps tb σ rs = some ps →
  (rs.mapM (resRun a.tmps)).run P w = .ok (ps.map (compDen e)) w ∧ ∀ p ∈ ps, scs (look σ) p.2
 | [], ps, h => by
  obtain rfl := Option.some.inj h
  exact ⟨rfl, fun p hp => by cases hp⟩
 | r :: rs, ps, h => by
  simp only [comps] at h
  split at h
  ·rename_i p ps' hp hps
   obtain rfl := Option.some.inj h
   obtain ⟨v, hv, hc⟩ := Option.bind_eq_some_iff.1 hp
   obtain ⟨d, sc⟩ := comp_den hc
   obtain ⟨r1, r2⟩ := resV_run hT hR hv
   obtain ⟨i1, i2⟩ := comps_run hT hR hps
   refine ⟨?_, fun q hq => ?_⟩
   ·rw [List.mapM_cons, Sem.run_bind, r1, Result.andThen_ok, Sem.run_bind, i1, Result.andThen_ok]
    rw [List.map_cons, d e]
    rfl
   ·cases hq with
    | head => exact sc _ r2
    | tail _ hq => exact i2 q hq
  ·cases h
theorem evRes_run (hT : TbOk P tb) {C : Ctx} {N : Nat} {e : Env} {σ : St} {a : Act} {w : World} (hR : Rel C N e (look σ) a w) {fn : Func} {v : Sv} (h : evRes tb σ fn.results.toList = some v) :
  (results fn a.tmps).run P w = .ok (v.den e) w ∧ v.sc (look σ) := by
 have hres : ∀ vs : List Value, (fn.results.toList.mapM (resRun a.tmps)).run P w = .ok vs w → (results fn a.tmps).run P w = .ok (if h : vs.toArray.size = 1 then vs.toArray[0] else .tuple vs.toArray) w := by
  intro vs hvs
  have he : results fn a.tmps = (do
    let vs ← fn.results.mapM (resRun a.tmps)
    pure (if h : vs.size = 1 then vs[0] else .tuple vs)) := by
   unfold results
   first
    | rfl
    | (congr 2; done)
    | (congr 2; funext r; cases r <;> rfl)
  rw [he, Sem.run_bind, Array.mapM_eq_mapM_toList, Sem.run_map, hvs]
  rfl
 unfold evRes at h
 split at h
 ·rename_i r hr
  obtain ⟨r1, r2⟩ := resV_run hT hR h
  refine ⟨?_, r2⟩
  rw [hres [v.den e] (by rw [hr, List.mapM_cons, Sem.run_bind, r1, Result.andThen_ok]; rfl)]
  rfl
 ·rename_i hn
  obtain ⟨ps, hps, rfl⟩ := Option.map_eq_some_iff.1 h
  obtain ⟨i1, i2⟩ := comps_run hT hR hps
  refine ⟨?_, i2⟩
  rw [hres _ i1]
  have hlen : ps.length = fn.results.toList.length := by
   have : ∀ (rs : List ResultVar) (ps : List (Bool × List Cv)), comps tb σ rs = some ps → ps.length = rs.length := by
    intro rs
    induction rs with
    | nil => intro ps h; obtain rfl := Option.some.inj h; rfl
    | cons r rs ih =>
     intro ps h
     simp only [comps] at h
     split at h
     ·rename_i p ps' _ hps'
      obtain rfl := Option.some.inj h
      simp [ih _ hps']
     ·cases h
   exact this _ _ hps
  rw [dif_neg]
  ·rfl
  ·simp only [List.size_toArray, List.length_map]
   rw [hlen]
   intro h1
   obtain ⟨r, hr⟩ := List.length_eq_one_iff.1 h1
   exact hn r hr
/-! A function's own frame. -/
def argTm : Nat → List Sv → List (Nat × Sv)
 | _, [] => []
 | i, v :: vs => (i, v) :: argTm (i + 1) vs
def enterSt (σ : St) (args : List Sv) : St := { σ with tm := argTm 0 args, lg := [] }
theorem argTm_at : ∀ {args : List Sv} {i t : Nat} {v : Sv}, alook (argTm i args) t = some v → i ≤ t ∧ args[t - i]? = some v
 | [], i, t, v, h => by cases h
 | u :: us, i, t, v, h => by
  simp only [argTm, alook] at h
  cases hb : Nat.beq i t with
  | true =>
   rw [hb] at h
   obtain rfl := beq_iff'.1 hb
   obtain rfl := Option.some.inj h
   exact ⟨Nat.le_refl _, by simp⟩
  | false =>
   rw [hb] at h
   obtain ⟨h1, h2⟩ := argTm_at h
   refine ⟨by omega, ?_⟩
   rw [show t - i = (t - (i + 1)) + 1 by omega]
   simpa using h2
theorem enter_rel {C : Ctx} {e : Env} {σ : St} {w : World} {args : List Sv} {N : Nat} (hp : Hp C e (look σ) w) (ha : ∀ x ∈ args, x.sc (look σ)) (hN : args.length ≤ N) :
  Rel C N e (look (enterSt σ args)) { tmps := (args.map (·.den e)).toArray ++ Array.replicate (N - (args.map (·.den e)).toArray.size) undef, defers := [] } w := by
 have hS : Sub (look σ) (look (enterSt σ args)) := ⟨fun _ h => h, fun _ h => h⟩
 refine ⟨by simp; omega, rfl, ?_, hp.congr fun l hl => ?_⟩
 ·intro t v ht
  have h1 : alook (argTm 0 args) t = some v := by
   simp only [look, enterSt] at ht
   obtain ⟨u, hu, he⟩ := Option.map_eq_some_iff.1 ht
   obtain rfl : u = v := by simpa using he
   exact hu
  obtain ⟨_, h2⟩ := argTm_at h1
  rw [Nat.sub_zero] at h2
  have hlt := (List.getElem?_eq_some_iff.1 h2).1
  refine ⟨by omega, ?_, (ha v (List.mem_of_getElem? h2)).sub hS⟩
  show ((args.map (·.den e)).toArray ++ _).getD t undef = _
  rw [Array.getD_eq_getD_getElem?, Array.getElem?_append_left (by simpa using hlt)]
  simp [h2]
 ·cases l with
  | t n => exact absurd rfl (hl n)
  | _ => rfl
/-! Ways of a function that meet at its end. -/
abbrev FLeaf := Sv × St
def peelF : Tree FLeaf → Option (List Bool × FLeaf)
 | .leaf x => some ([], x)
 | .must b t => (peelF t).map fun p => (b :: p.1, p.2)
 | _ => none
def join2F (σ : St) (b : Bool) (t f : Tree FLeaf) : Tree FLeaf := match peelF t, peelF f with
 | some (mt, (v, x)), some (mf, (u, y)) => match Sv.ite b v u, merge0 σ b x y with
  | some z, some m => musts (mt.map fun q => !b || q) (musts (mf.map fun q => b || q) (.leaf (z, m)))
  | _, _ => .br b t f
 | _, _ => .br b t f
def joinF (σ : St) : Tree FLeaf → Tree FLeaf
 | .leaf x => .leaf x
 | .must b t => .must b (joinF σ t)
 | .br b t f => join2F σ b (joinF σ t) (joinF σ f)
 | .fail => .fail
theorem peelF_at {l : List Bool} {x : FLeaf} : ∀ {t : Tree FLeaf}, peelF t = some (l, x) → (∀ b ∈ l, b = true) → t.At x
 | .leaf y, h, _ => by
  obtain ⟨_, rfl⟩ := Prod.mk.inj (Option.some.inj h)
  rfl
 | .must b t, h, hl => by
  obtain ⟨p, hp, he⟩ := Option.map_eq_some_iff.1 h
  obtain ⟨rfl, rfl⟩ := Prod.mk.inj he
  exact ⟨hl b List.mem_cons_self, peelF_at hp fun c hc => hl c (List.mem_cons_of_mem _ hc)⟩
 | .br _ _ _, h, _ => by cases h
 | .fail, h, _ => by cases h
theorem peelF_every {p : FLeaf → Prop} {l : List Bool} {x : FLeaf} : ∀ {t : Tree FLeaf}, peelF t = some (l, x) → t.Every p → p x
 | .leaf y, h, k => by
  obtain ⟨_, rfl⟩ := Prod.mk.inj (Option.some.inj h)
  exact k
 | .must b t, h, k => by
  obtain ⟨q, hq, he⟩ := Option.map_eq_some_iff.1 h
  obtain ⟨_, rfl⟩ := Prod.mk.inj he
  exact peelF_every (t := t) hq k
 | .br _ _ _, h, _ => by cases h
 | .fail, h, _ => by cases h
theorem join2F_every {σ : St} {b : Bool} {t f : Tree FLeaf} (ht : t.Every fun x => Ext σ x.2) (hf : f.Every fun x => Ext σ x.2) : (join2F σ b t f).Every fun x => Ext σ x.2 := by
 unfold join2F
 split
 ·split
  ·rename_i hm; exact every_musts (every_musts (merge_ext hm))
  ·exact ⟨ht, hf⟩
 ·exact ⟨ht, hf⟩
theorem joinF_every {σ : St} : ∀ {T : Tree FLeaf}, (T.Every fun x => Ext σ x.2) → (joinF σ T).Every fun x => Ext σ x.2
 | .leaf _, h => h
 | .must _ t, h => joinF_every (T := t) h
 | .br _ _ _, h => join2F_every (joinF_every h.1) (joinF_every h.2)
 | .fail, _ => trivial
def StandsF (σ : St) (T : Tree FLeaf) (y : FLeaf) : Prop := ∃ x, T.At x ∧ (WS (look σ) → RelTo σ x.2 y.2 ∧ (∀ e, y.1.den e = x.1.den e) ∧ (x.1.sc (look x.2) → y.1.sc (look y.2)))
theorem join2F_ok {σ : St} {b : Bool} {t f : Tree FLeaf} (ht : t.Every fun x => Ext σ x.2) (hf : f.Every fun x => Ext σ x.2) {y : FLeaf} (h : (join2F σ b t f).At y) : StandsF σ (.br b t f) y := by
 have self : (Tree.br b t f).At y → StandsF σ (.br b t f) y := fun hy => ⟨y, hy, fun _ => ⟨RelTo.refl _ _, fun _ => rfl, id⟩⟩
 unfold join2F at h
 split at h
 ·rename_i mt v x mf u z hpt hpf
  split at h
  ·rename_i r m hr hm
   rw [At_musts, At_musts] at h
   obtain ⟨h1, h2, h3⟩ := h
   obtain rfl : (r, m) = y := h3
   have ex : Ext σ x := peelF_every hpt ht
   have ez : Ext σ z := peelF_every hpf hf
   obtain ⟨d, sc⟩ := Sv.ite_den hr
   have key : ∀ {X : FLeaf}, X = (if b = true then (v, x) else (u, z)) → (Tree.br b t f).At X → StandsF σ (.br b t f) (r, m) := by
    intro X hX hAt
    refine ⟨X, hAt, fun hws => ⟨?_, fun e => ?_, fun _ => sc _⟩⟩
    ·intro C N e a w hp hr'
     obtain ⟨k1, _, k3⟩ := merge_wk hws ex ez hm (if b = true then x else z) rfl
     have hx2 : X.2 = if b = true then x else z := by rw [hX]; cases b <;> rfl
     rw [hx2] at hr'
     exact hr'.wk k1 ⟨fun id p hh => k3.1 id (hp.1 id p hh), fun c q hh => k3.2 c (hp.2 c q hh)⟩
    ·rw [d e, hX]; cases b <;> rfl
   by_cases hb : b = true
   ·refine key (X := (v, x)) (by rw [if_pos hb]) (Or.inl ⟨hb, peelF_at hpt fun q hq => ?_⟩)
    have := h1 _ (List.mem_map.2 ⟨q, hq, rfl⟩)
    rw [hb] at this; simpa using this
   ·have hb' : b = false := by simpa using hb
    refine key (X := (u, z)) (by rw [if_neg hb]) (Or.inr ⟨hb', peelF_at hpf fun q hq => ?_⟩)
    have := h2 _ (List.mem_map.2 ⟨q, hq, rfl⟩)
    rw [hb'] at this; simpa using this
  ·exact self h
 ·exact self h
theorem joinF_ok {σ : St} : ∀ {T : Tree FLeaf} {y : FLeaf}, (T.Every fun x => Ext σ x.2) → (joinF σ T).At y → StandsF σ T y
 | .leaf x, y, _, h => ⟨y, h, fun _ => ⟨RelTo.refl _ _, fun _ => rfl, id⟩⟩
 | .must b t, y, he, h => by
  obtain ⟨x, h1, h2⟩ := joinF_ok (T := t) he h.2
  exact ⟨x, ⟨h.1, h1⟩, h2⟩
 | .br b t f, y, he, h => by
  obtain ⟨x, h1, h2⟩ := join2F_ok (joinF_every he.1) (joinF_every he.2) h
  rcases h1 with ⟨hb, h1⟩ | ⟨hb, h1⟩
  ·obtain ⟨z, k1, k2⟩ := joinF_ok he.1 h1
   exact ⟨z, Or.inl ⟨hb, k1⟩, fun hw => ⟨(k2 hw).1.trans (h2 hw).1, fun e => ((h2 hw).2.1 e).trans ((k2 hw).2.1 e), fun hs => (h2 hw).2.2 ((k2 hw).2.2 hs)⟩⟩
  ·obtain ⟨z, k1, k2⟩ := joinF_ok he.2 h1
   exact ⟨z, Or.inr ⟨hb, k1⟩, fun hw => ⟨(k2 hw).1.trans (h2 hw).1, fun e => ((h2 hw).2.1 e).trans ((k2 hw).2.1 e), fun hs => (h2 hw).2.2 ((k2 hw).2.2 hs)⟩⟩
 | .fail, _, _, h => h.elim
def outF (tb : Tb) (rs : List ResultVar) (x : Leaf) : Tree FLeaf := match x.1 with
 | .stop _ => .fail
 | .exit _ => .fail
 | _ => match evRes tb x.2 rs with
  | some v => fV v fun v => .leaf (v, x.2)
  | none => .fail
theorem outF_eq {tb : Tb} {rs : List ResultVar} {x : Leaf} : outF tb rs x = match x.1 with
  | .stop _ => .fail
  | .exit _ => .fail
  | _ => match evRes tb x.2 rs with
   | some v => .leaf (v, x.2)
   | none => .fail := by
 simp only [outF, fV_eq]
def asgOps : List Oper → List Nat → List Nat
 | [], acc => acc
 | o :: l, acc => match o.op, o.dst with
  | .assign _, some d => asgOps l (bif memb acc d then acc else d :: acc)
  | _, _ => asgOps l acc
def asg : Nat → Code → List Nat → List Nat
 | 0, _, acc => acc
 | n + 1, c, acc => match c with
  | .region _ ops _ => asgOps ops.toList acc
  | .seq a b => asg n b (asg n a acc)
  | .cond _ a b => asg n b (asg n a acc)
  | .block _ b => asg n b acc
  | .loop b => asg n b acc
  | _ => acc
def withVr (σ : St) (l : List Nat) : St := { σ with vr := l }
theorem look_withVr (σ : St) (l : List Nat) : look (withVr σ l) = look σ := by funext x; cases x <;> rfl
def evVr (wf : List FuncId) (f fuel : Nat) (fn : Func) : List Nat := match fn.body with
 | some c => match memb wf (f + 200000) with
  | true => 99999 :: asg fuel c []
  | false => match memb wf (f + 100000) with
   | true => asg fuel c [] ++ (asg fuel c []).map (· + 100000)
   | false => asg fuel c []
 | none => []
def evBody (tb : Tb) (wf : List FuncId) (call : CallF) (fuel : Nat) (vs : List Nat) (fn : Func) (args : List Sv) (σ : St) : Tree FLeaf := match fn.body, Nat.ble args.length fn.ntmps with
 | some c, true => fEnt (enterSt (withVr σ vs) args) fun σ0 => joinF σ0 ((evC tb wf call fn.ntmps [] fuel c σ0).bind (outF tb fn.results.toList))
 | _, _ => .fail
def evFn (tb : Tb) (wf : List FuncId) (sp : FuncId → Option (List Sv → St → Tree FLeaf)) (fuel : Nat) : Nat → CallF
 | 0, _, _, _ => .fail
 | d + 1, f, args, σ => match sp f with
  | some g => g args σ
  | none => match alook tb.fn f with
   | some fn => evBody tb wf (evFn tb wf sp fuel d) fuel (evVr wf f fuel fn) fn args σ
   | none => .fail
def SpOk (P : Program) (sp : FuncId → Option (List Sv → St → Tree FLeaf)) : Prop := ∀ f g, sp f = some g → ∀ args σ y, (g args σ).At y → FunOk P f args σ y.1 y.2
theorem unW_fns {lg : List Wr} {id off : Nat} (h : unW lg id off = true) : ∀ x ∈ lg, x.fn (.c id off) = none := by
 intro x hx
 have := List.all_eq_true.1 h x hx
 cases x with
 | cell i o v =>
  simp only [Bool.not_eq_true', Bool.and_eq_false_iff, beq_ff] at this
  simp only [Wr.fn]
  rw [if_neg (fun e => by rcases this with h | h; exact h e.1.symm; exact h e.2.symm)]
 | new i b =>
  simp only [Bool.not_eq_true', beq_ff] at this
  simp only [Wr.fn]
  rw [if_neg (fun e => this e.symm)]
 | _ => rfl
theorem ext_keep {σ0 σ' : St} (h : Ext σ0 σ') : KeepL σ0 σ' := by
 intro id off _ hu
 obtain ⟨ws, hw, hl⟩ := h
 rw [look_apps hw, upds_fns]
 have : fns ws (.c id off) = none := by
  cases hf : fns ws (.c id off) with
  | none => rfl
  | some z =>
   exfalso
   obtain ⟨x, hx1, hx2⟩ := fns_some (l := .c id off) (ws := ws) (by rw [hf]; rfl)
   have := unW_fns hu x (by rw [hl]; exact List.mem_append_left _ (List.mem_reverse.2 hx1))
   rw [this] at hx2; cases hx2
 dsimp only
 rw [this, Option.getD_none]
theorem evBody_ok {wf : List FuncId} {call : CallF} (hT : TbOk P tb) (hm : P.follows .mixedOrders = true) (hc : CallFOk P call) {fuel f : Nat} {vs : List Nat} {fn : Func} (hf : P.funcs[f]? = some fn) {args : List Sv} {σ : St} {y : FLeaf} (h : (evBody tb wf call fuel vs fn args σ).At y) : FunOk P f args σ y.1 y.2 := by
 unfold evBody at h
 split at h
 ·rename_i c hb hle
  rw [Nat.ble_eq] at hle
  rw [fEnt_eq] at h
  have hev : ((evC tb wf call fn.ntmps [] fuel c (enterSt (withVr σ vs) args)).bind (outF tb fn.results.toList)).Every fun x => Ext (enterSt (withVr σ vs) args) x.2 := by
   refine Tree.Every.bind (evC_every.mono fun x hx => ?_)
   rw [outF_eq]
   split
   ·trivial
   ·trivial
   ·split
    ·exact hx
    ·trivial
  have hkeep := ext_keep ((joinF_every hev).at_ h)
  obtain ⟨x, h1, h2⟩ := joinF_ok hev h
  obtain ⟨z, k1, k2⟩ := Tree.At_bind.1 h1
  have hz : ∃ v, evRes tb z.2 fn.results.toList = some v ∧ x = (v, z.2) ∧ (z.1 = .normal ∨ z.1 = .ret) := by
   rw [outF_eq] at k2
   split at k2
   ·exact k2.elim
   ·exact k2.elim
   ·rename_i n1 n2
    split at k2
    ·rename_i v hv
     refine ⟨v, hv, k2.symm, ?_⟩
     cases hz : z.1 with
     | normal => exact Or.inl rfl
     | ret => exact Or.inr rfl
     | exit i => exact absurd hz (n2 i)
     | stop k => exact absurd hz (n1 k)
    ·exact k2.elim
  obtain ⟨v, hv, rfl, hzo⟩ := hz
  refine ⟨fun C e w hp ha => ?_, fun id off hk hu => hkeep id off hk hu⟩
  -- every name that is known stands fast
  let C' : Ctx := { M := C.M, w0 := C.w0, pin := fun id => if (look σ (.k id)).isSome = true then some (e.pl id) else none, pinn := fun c => if (look σ (.n c)).isSome = true then some (e.nm c) else none }
  have hp' : Hp C' e (look σ) w := ⟨hp.new, hp.cl, hp.ar, hp.oq, hp.cp, hp.inj, hp.lt, hp.mu, ⟨(fun id p hh => by
   simp only [C'] at hh
   split at hh
   ·rename_i hk; exact ⟨Option.some.inj hh, hk⟩
   ·cases hh), (fun c m hh => by
   simp only [C'] at hh
   split at hh
   ·rename_i hk; exact ⟨Option.some.inj hh, hk⟩
   ·cases hh)⟩, hp.fr⟩
  have hR := enter_rel (σ := withVr σ vs) (by rw [look_withVr]; exact hp') (by rw [look_withVr]; exact ha) hle
  refine calls_of_wp hf hb ?_
  refine evC_ok hT hm hc fuel c (enterSt (withVr σ vs) args) z k1 C' e _ w _ hR fun e' a' w' hR' => ?_
  have hws : WS (look (enterSt (withVr σ vs) args)) := hR.ws
  obtain ⟨s1, s2, s3⟩ := h2 hws
  have hpins : (∀ id p, C'.pin id = some p → kn (look (enterSt (withVr σ vs) args)) id) ∧ ∀ d m, C'.pinn d = some m → knn (look (enterSt (withVr σ vs) args)) d := ⟨fun id p hh => (hp'.pin.1 id p hh).2, fun c m hh => (hp'.pin.2 c m hh).2⟩
  have hRy := s1 C' fn.ntmps e' a' w' hpins hR'
  obtain ⟨r1, r2⟩ := evRes_run hT hR' hv
  have hA : Agree (look σ) e e' := by
   refine ⟨fun id hid => (hRy.hp.pin.1 id (e.pl id) ?_).1, fun c hc => (hRy.hp.pin.2 c (e.nm c) ?_).1⟩
   ·exact if_pos hid
   ·exact if_pos hc
  have hfin : Hp C e' (look y.2) w' := by
   have q := hRy.hp
   refine ⟨q.new, q.cl, q.ar, q.oq, q.cp, q.inj, q.lt, q.mu, ⟨fun id p hh => ?_, fun c m hh => ?_⟩, q.fr⟩
   ·obtain ⟨p1, p2⟩ := hp.pin.1 id p hh
    have := q.pin.1 id (e.pl id) (if_pos p2)
    exact ⟨this.1.trans p1, this.2⟩
   ·obtain ⟨p1, p2⟩ := hp.pin.2 c m hh
    have := q.pin.2 c (e.nm c) (if_pos p2)
    exact ⟨this.1.trans p1, this.2⟩
  have hend : ∃ v', (results fn a'.tmps).run P w' = .ok v' w' ∧ ∃ e'', Agree (look σ) e e'' ∧ Hp C e'' (look y.2) w' ∧ Ending.returned v' = .returned (y.1.den e'') ∧ y.1.sc (look y.2) :=
   ⟨_, r1, e', hA, hfin, by rw [s2 e'], s3 r2⟩
  rcases hzo with ho | ho
  ·rw [ho]
   exact ⟨hR'.df, hend⟩
  ·rw [ho]
   exact ⟨hR'.df, hend⟩
 ·exact h.elim
theorem evFn_ok {wf : List FuncId} {sp : FuncId → Option (List Sv → St → Tree FLeaf)} {fuel : Nat} (hT : TbOk P tb) (hm : P.follows .mixedOrders = true) (hs : SpOk P sp) : ∀ d, CallFOk P (evFn tb wf sp fuel d)
 | 0 => fun _ _ _ _ h => h.elim
 | d + 1 => by
  intro f args σ Φ h
  obtain ⟨y, h1, h2⟩ := h.at_
  refine ⟨y.1, y.2, h2, ?_⟩
  simp only [evFn] at h1
  split at h1
  ·rename_i g hg; exact hs f g hg args σ y h1
  ·split at h1
   ·rename_i fn hfn
    exact evBody_ok hT hm (evFn_ok hT hm hs d) (hT.fn.at_ hfn).1 h1
   ·exact h1.elim
theorem evFn_at {wf : List FuncId} {sp : FuncId → Option (List Sv → St → Tree FLeaf)} {fuel : Nat} (hT : TbOk P tb) (hm : P.follows .mixedOrders = true) (hs : SpOk P sp) {d f : Nat} {args : List Sv} {σ : St} {y : FLeaf} (h : (evFn tb wf sp fuel d f args σ).At y) : FunOk P f args σ y.1 y.2 := by
 obtain ⟨v, σ', h1, h2⟩ := evFn_ok hT hm hs d f args σ (· = y) h.eqAll
 obtain rfl := h1
 exact h2
end
end Sx
end Go.Proofs.YtmpilgkfbibhlaaGreatDoor
namespace Go.Proofs.YtmpilgkfbibhlaaGreatDoor
namespace Sx
open Go.RowKit Go.ChangeShapes Go.WideShapes
section
variable {P : Program} {tb : Tb}
def st0 : St := ⟨[], [], 0, [], 0, [], []⟩
theorem look_st0 (l : Loc) : look st0 l = none := by cases l <;> rfl
def env0 : Env := ⟨fun _ => (0, 0), fun _ => 0⟩
def ctx0 (w : World) : Ctx := ⟨fun b => w.heap.size ≤ b, fun _ => none, fun _ => none, w⟩
theorem hp0 (w : World) (hG : Glob0 w := by exact glob0 w) : Hp (ctx0 w) env0 (look st0) w := by
 refine ⟨fun _ h => h, ?_, ?_, ?_, ?_, ?_, ?_, ?_, ⟨fun _ _ h => (by cases h), fun _ _ h => (by cases h)⟩, ⟨rfl, rfl, rfl, Nat.le_refl _, fun _ _ _ => rfl, hG⟩⟩ <;> (try clear hG) <;>
  intros <;> simp only [look_st0, reduceCtorEq] at *
def Cv.freeB : Cv → Bool
 | .ptr _ _ => false
 | .slc _ _ _ _ => false
 | .fn _ caps => caps.isEmpty
 | _ => true
def Sv.freeB : Sv → Bool
 | .one c => c.freeB
 | .agg cs => cs.all Cv.freeB
 | .tup vs => vs.all fun p => p.2.all Cv.freeB
theorem Cv.free_sc {c : Cv} (h : c.freeB = true) (s : Sto) : c.sc s := by
 cases c with
 | ptr id off => cases h
 | slc id off l c => cases h
 | fn f caps => obtain rfl := List.isEmpty_iff.1 h; exact fun p hp => by cases hp
 | _ => trivial
theorem Sv.free_sc {v : Sv} (h : v.freeB = true) (s : Sto) : v.sc s := by
 cases v with
 | one c => exact Cv.free_sc h s
 | agg cs => exact fun c hc => Cv.free_sc (List.all_eq_true.1 h c hc) s
 | tup vs => exact fun p hp c hc => Cv.free_sc (List.all_eq_true.1 (List.all_eq_true.1 h p hp) c hc) s
theorem Sv.free_den {v : Sv} (h : v.freeB = true) (e e' : Env) : v.den e' = v.den e :=
 Sv.den_agree (s := fun _ => none) ⟨fun _ h => (by cases h), fun _ h => (by cases h)⟩ (Sv.free_sc h _)
theorem FunOk.any {f : FuncId} {args : List Sv} {v : Sv} {σ' : St} (h : FunOk P f args st0 v σ') (hargs : ∀ x ∈ args, x.freeB = true) (hv : v.freeB = true) (w : World) (hG : Glob0 w := by exact glob0 w) :
  Calls P f (args.map (·.den env0)).toArray w fun en w' => en = .returned (v.den env0) ∧ Below w.heap.size w w' := by
 refine (h.run (ctx0 w) env0 w (hp0 w hG) fun x hx => Sv.free_sc (hargs x hx) _).mono fun en w' => ?_
 rintro ⟨e', -, hp, rfl, -⟩
 refine ⟨by rw [Sv.free_den hv e' env0], hp.fr.os, hp.fr.tape, hp.fr.output, hp.fr.size, fun k hk => hp.fr.block k hk ?_⟩
 show ¬ w.heap.size ≤ k
 omega
theorem Hp.keep {C : Ctx} {e : Env} {s : Sto} {w w' : World} (h : Hp C e s w) (b : Below w.heap.size w w') : Hp C e s w' := by
 have keep : ∀ i b, s (.k i) = some (.bk b) → b.live = true → w'.heap[(e.pl i).1]? = w.heap[(e.pl i).1]? := fun i x hx hl => b.block _ (h.lt i x hx hl)
 refine ⟨h.new, ?_, ?_, ?_, ?_, h.inj, ?_, h.mu, h.pin, ?_⟩
 ·intro i off x hx
  obtain ⟨h1, ⟨t, ro, n, cp, h2, h3⟩, h4⟩ := h.cl i off x hx
  exact ⟨h1, ⟨t, ro, n, cp, h2, h3⟩, by rw [World.cell?_of_block (w := w) (keep i _ h2 rfl), h4]⟩
 ·intro i t n cp hx off ho
  have hk := keep i _ hx rfl
  rw [World.frozen?_of_block (w := w) hk, World.cell?_of_block (w := w) hk]
  exact h.ar i t n cp hx off ho
 ·intro i t ro n f cp hx off ho
  have hk := keep i _ hx rfl
  rw [World.frozen?_of_block (w := w) hk, World.cell?_of_block (w := w) hk]
  exact h.oq i t ro n f cp hx off ho
 ·intro i x c es hx hc
  have hl : x.live = true := by cases x <;> first | rfl | cases hc
  obtain ⟨h1, h2, cs, h3, h4⟩ := h.cp i x c es hx hc
  exact ⟨h1, h2, cs, (keep i x hx hl).trans h3, h4⟩
 ·intro i x hx hl
  exact Nat.lt_of_lt_of_le (h.lt i x hx hl) b.size
 ·have f := h.fr
  exact ⟨b.os.trans f.os, b.tape.trans f.tape, b.output.trans f.output, Nat.le_trans f.size b.size, fun k hk hM => (b.block k (Nat.lt_of_lt_of_le hk f.size)).trans (f.block k hk hM), f.gl⟩
theorem FunOk.of_any {f : FuncId} {args : List Sv} {v : Sv} {σ : St} (hv : v.freeB = true) (h : ∀ (e : Env) (w : World), Calls P f (args.map (·.den e)).toArray w fun en w' => en = .returned (v.den e) ∧ Below w.heap.size w w') : FunOk P f args σ v σ := by
 refine ⟨fun C e w hp _ => ?_, KeepL.refl _⟩
 refine (h e w).mono fun en w' => ?_
 rintro ⟨rfl, hb⟩
 exact ⟨e, Agree.refl _ _, hp.keep hb, rfl, Sv.free_sc hv _⟩
theorem FunOk.of_anyG {f : FuncId} {args : List Sv} {v : Sv} {σ : St} (hv : v.freeB = true) (h : ∀ (e : Env) (w : World), Glob0 w → Calls P f (args.map (·.den e)).toArray w fun en w' => en = .returned (v.den e) ∧ Below w.heap.size w w') : FunOk P f args σ v σ := by
 refine ⟨fun C e w hp _ => ?_, KeepL.refl _⟩
 refine (h e w hp.fr.glob0).mono fun en w' => ?_
 rintro ⟨rfl, hb⟩
 exact ⟨e, Agree.refl _ _, hp.keep hb, rfl, Sv.free_sc hv _⟩
/-! The answer is true. -/
/-! An argument's leaves. -/
def Lf.ok : Lf → Value → Prop
 | .b, v => ∃ b, v = .bool b
 | .i k, v => ∃ n, v = .int k n ∧ (Lit.int k n).wf = true
inductive All2 {α β : Type} (R : α → β → Prop) : List α → List β → Prop where
 | nil : All2 R [] []
 | cons {a b l m} : R a b → All2 R l m → All2 R (a :: l) (b :: m)
theorem All2.append {α β : Type} {R : α → β → Prop} {l l' : List α} {m m' : List β} (h : All2 R l m) (k : All2 R l' m') : All2 R (l ++ l') (m ++ m') := by
 induction h with
 | nil => exact k
 | cons h _ ih => exact .cons h ih
theorem All2.length {α β : Type} {R : α → β → Prop} {l : List α} {m : List β} (h : All2 R l m) : l.length = m.length := by
 induction h with
 | nil => rfl
 | cons _ _ ih => simp [ih]
section
variable {H : Type} {enc : TypeId × Value → H} {w : World} {base : Nat} {spare : Nat → Bool} {held : Bool}
end
/-! Leaves in names: the truth value bs j, the number ns j, for leaf j. -/
def Lf.cv (bs : Nat → Bool) (ns : Nat → Int) (j : Nat) : Lf → Cv
 | .b => .b (bs j) false
 | .i k => .i k (ns j) false
section
variable {H : Type} {enc : TypeId × Value → H} {w : World} {base : Nat} {spare : Nat → Bool} {held : Bool} {t : TypeId} {v : Value} {dt : DataW H} {ps : List MemPlace} {r : Reach} {b0 : Nat}
end
end
end Sx
end Go.Proofs.YtmpilgkfbibhlaaGreatDoor
namespace Go.Proofs.YtmpilgkfbibhlaaGreatDoor
open Sx
set_option maxRecDepth 100000
noncomputable def tbl : Tb := { ty := [(0, Tryz.t0), (1, Tryz.t1), (2, Tryz.t2), (3, Tryz.t3), (4, Tryz.t4), (5, Tryz.t5), (6, Tryz.t6), (7, Tryz.t7), (8, Tryz.t8), (9, Tryz.t9), (10, Tryz.t10), (11, Tryz.t11), (12, Tryz.t12), (13, Tryz.t13), (14, Tryz.t14), (15, Tryz.t15), (16, Tryz.t16), (17, Tryz.t17), (18, Tryz.t18), (19, Tryz.t19), (20, Tryz.t20), (21, Tryz.t21), (22, Tryz.t22), (23, Tryz.t23), (24, Tryz.t24), (25, Tryz.t25), (26, Tryz.t26), (27, Tryz.t27), (28, Tryz.t28), (29, Tryz.t29), (30, Tryz.t30), (31, Tryz.t31), (32, Tryz.t32), (33, Tryz.t33), (34, Tryz.t34), (35, Tryz.t35), (36, Tryz.t36), (37, Tryz.t37), (38, Tryz.t38), (39, Tryz.t39), (40, Tryz.t40), (41, Tryz.t41), (42, Tryz.t42), (43, Tryz.t43), (44, Tryz.t44), (45, Tryz.t45), (46, Tryz.t46), (47, Tryz.t47), (48, Tryz.t48), (49, Tryz.t49), (50, Tryz.t50), (51, Tryz.t51), (52, Tryz.t52), (53, Tryz.t53), (54, Tryz.t54), (55, Tryz.t55), (56, Tryz.t56), (57, Tryz.t57), (58, Tryz.t58), (59, Tryz.t59), (60, Tryz.t60), (61, Tryz.t61), (62, Tryz.t62), (63, Tryz.t63), (64, Tryz.t64), (65, Tryz.t65), (66, Tryz.t66), (67, Tryz.t67), (68, Tryz.t68), (69, Tryz.t69), (70, Tryz.t70), (71, Tryz.t71), (72, Tryz.t72), (73, Tryz.t73), (74, Tryz.t74), (75, Tryz.t75), (76, Tryz.t76), (77, Tryz.t77), (78, Tryz.t78), (79, Tryz.t79), (80, Tryz.t80), (81, Tryz.t81), (82, Tryz.t82), (83, Tryz.t83), (84, Tryz.t84), (85, Tryz.t85), (86, Tryz.t86), (87, Tryz.t87), (88, Tryz.t88), (89, Tryz.t89), (90, Tryz.t90), (91, Tryz.t91), (92, Tryz.t92), (93, Tryz.t93), (94, Tryz.t94), (95, Tryz.t95), (96, Tryz.t96), (97, Tryz.t97), (98, Tryz.t98), (99, Tryz.t99), (100, Tryz.t100), (101, Tryz.t101), (102, Tryz.t102), (103, Tryz.t103), (104, Tryz.t104), (105, Tryz.t105), (106, Tryz.t106), (107, Tryz.t107), (108, Tryz.t108), (109, Tryz.t109), (110, Tryz.t110), (111, Tryz.t111), (112, Tryz.t112), (113, Tryz.t113), (114, Tryz.t114), (115, Tryz.t115), (116, Tryz.t116), (117, Tryz.t117), (118, Tryz.t118), (119, Tryz.t119), (120, Tryz.t120), (121, Tryz.t121), (122, Tryz.t122), (123, Tryz.t123), (124, Tryz.t124), (125, Tryz.t125), (126, Tryz.t126), (127, Tryz.t127), (128, Tryz.t128), (129, Tryz.t129), (130, Tryz.t130), (131, Tryz.t131), (132, Tryz.t132), (133, Tryz.t133), (134, Tryz.t134), (135, Tryz.t135), (136, Tryz.t136), (137, Tryz.t137), (138, Tryz.t138), (139, Tryz.t139), (140, Tryz.t140), (141, Tryz.t141), (142, Tryz.t142), (143, Tryz.t143), (144, Tryz.t144), (145, Tryz.t145), (146, Tryz.t146), (147, Tryz.t147), (148, Tryz.t148), (149, Tryz.t149), (150, Tryz.t150), (151, Tryz.t151), (152, Tryz.t152), (153, Tryz.t153), (154, Tryz.t154), (155, Tryz.t155), (156, Tryz.t156), (157, Tryz.t157), (158, Tryz.t158), (159, Tryz.t159), (160, Tryz.t160), (161, Tryz.t161), (162, Tryz.t162), (163, Tryz.t163), (164, Tryz.t164), (165, Tryz.t165), (166, Tryz.t166), (167, Tryz.t167), (168, Tryz.t168), (169, Tryz.t169), (170, Tryz.t170), (171, Tryz.t171), (172, Tryz.t172), (173, Tryz.t173), (174, Tryz.t174), (175, Tryz.t175), (176, Tryz.t176), (177, Tryz.t177), (178, Tryz.t178), (179, Tryz.t179), (180, Tryz.t180), (181, Tryz.t181), (182, Tryz.t182), (183, Tryz.t183), (184, Tryz.t184), (185, Tryz.t185), (186, Tryz.t186), (187, Tryz.t187), (188, Tryz.t188), (189, Tryz.t189), (190, Tryz.t190), (191, Tryz.t191), (192, Tryz.t192), (193, Tryz.t193), (194, Tryz.t194), (195, Tryz.t195), (196, Tryz.t196), (197, Tryz.t197), (198, Tryz.t198), (199, Tryz.t199), (200, Tryz.t200), (201, Tryz.t201), (202, Tryz.t202), (203, Tryz.t203), (204, Tryz.t204), (205, Tryz.t205), (206, Tryz.t206), (207, Tryz.t207), (208, Tryz.t208), (209, Tryz.t209), (210, Tryz.t210), (211, Tryz.t211), (212, Tryz.t212), (213, Tryz.t213), (214, Tryz.t214), (215, Tryz.t215), (216, Tryz.t216), (217, Tryz.t217), (218, Tryz.t218), (219, Tryz.t219), (220, Tryz.t220), (221, Tryz.t221), (222, Tryz.t222), (223, Tryz.t223), (224, Tryz.t224), (225, Tryz.t225), (226, Tryz.t226), (227, Tryz.t227), (228, Tryz.t228), (229, Tryz.t229), (230, Tryz.t230), (231, Tryz.t231), (232, Tryz.t232), (233, Tryz.t233), (234, Tryz.t234), (235, Tryz.t235), (236, Tryz.t236), (237, Tryz.t237), (238, Tryz.t238), (239, Tryz.t239), (240, Tryz.t240), (241, Tryz.t241), (242, Tryz.t242), (243, Tryz.t243), (244, Tryz.t244), (245, Tryz.t245), (246, Tryz.t246), (247, Tryz.t247), (248, Tryz.t248), (249, Tryz.t249), (250, Tryz.t250), (251, Tryz.t251), (252, Tryz.t252), (253, Tryz.t253), (254, Tryz.t254), (255, Tryz.t255), (256, Tryz.t256), (257, Tryz.t257), (258, Tryz.t258), (259, Tryz.t259), (260, Tryz.t260), (261, Tryz.t261), (262, Tryz.t262), (263, Tryz.t263), (264, Tryz.t264), (265, Tryz.t265), (266, Tryz.t266), (267, Tryz.t267), (268, Tryz.t268), (269, Tryz.t269), (270, Tryz.t270), (271, Tryz.t271), (272, Tryz.t272), (273, Tryz.t273)], fn := [(3, Tryz.f3), (4, Tryz.f4), (5, Tryz.f5), (6, Tryz.f6), (7, Tryz.f7), (8, Tryz.f8), (9, Tryz.f9), (10, Tryz.f10), (11, Tryz.f11), (12, Tryz.f12), (13, Tryz.f13), (14, Tryz.f14), (15, Tryz.f15), (16, Tryz.f16), (17, Tryz.f17), (18, Tryz.f18), (19, Tryz.f19), (20, Tryz.f20), (21, Tryz.f21), (22, Tryz.f22), (23, Tryz.f23), (24, Tryz.f24), (25, Tryz.f25), (26, Tryz.f26), (27, Tryz.f27), (28, Tryz.f28), (29, Tryz.f29), (30, Tryz.f30), (31, Tryz.f31), (32, Tryz.f32), (33, Tryz.f33), (34, Tryz.f34), (35, Tryz.f35), (36, Tryz.f36), (37, Tryz.f37), (38, Tryz.f38), (39, Tryz.f39), (40, Tryz.f40), (41, Tryz.f41), (42, Tryz.f42), (43, Tryz.f43), (44, Tryz.f44), (45, Tryz.f45), (46, Tryz.f46), (47, Tryz.f47), (48, Tryz.f48), (49, Tryz.f49), (50, Tryz.f50), (51, Tryz.f51), (52, Tryz.f52), (53, Tryz.f53), (54, Tryz.f54), (55, Tryz.f55), (56, Tryz.f56), (57, Tryz.f57), (58, Tryz.f58), (59, Tryz.f59), (60, Tryz.f60), (61, Tryz.f61), (62, Tryz.f62), (63, Tryz.f63), (64, Tryz.f64), (65, Tryz.f65), (66, Tryz.f66), (67, Tryz.f67), (68, Tryz.f68), (69, Tryz.f69), (70, Tryz.f70), (71, Tryz.f71), (72, Tryz.f72), (73, Tryz.f73), (74, Tryz.f74), (75, Tryz.f75), (76, Tryz.f76), (77, Tryz.f77), (78, Tryz.f78), (79, Tryz.f79), (80, Tryz.f80), (81, Tryz.f81), (82, Tryz.f82), (83, Tryz.f83), (84, Tryz.f84), (85, Tryz.f85), (86, Tryz.f86), (87, Tryz.f87), (88, Tryz.f88), (89, Tryz.f89), (90, Tryz.f90), (91, Tryz.f91), (92, Tryz.f92), (93, Tryz.f93), (94, Tryz.f94), (95, Tryz.f95), (96, Tryz.f96), (97, Tryz.f97), (98, Tryz.f98), (99, Tryz.f99), (100, Tryz.f100), (101, Tryz.f101), (102, Tryz.f102), (103, Tryz.f103), (104, Tryz.f104), (105, Tryz.f105), (106, Tryz.f106), (107, Tryz.f107), (108, Tryz.f108), (109, Tryz.f109), (110, Tryz.f110), (111, Tryz.f111), (112, Tryz.f112), (113, Tryz.f113), (114, Tryz.f114), (115, Tryz.f115), (116, Tryz.f116), (117, Tryz.f117), (118, Tryz.f118), (119, Tryz.f119), (120, Tryz.f120), (121, Tryz.f121), (122, Tryz.f122), (123, Tryz.f123), (124, Tryz.f124), (125, Tryz.f125), (126, Tryz.f126), (127, Tryz.f127), (128, Tryz.f128), (129, Tryz.f129), (130, Tryz.f130), (131, Tryz.f131), (132, Tryz.f132), (133, Tryz.f133), (134, Tryz.f134), (135, Tryz.f135), (136, Tryz.f136), (137, Tryz.f137), (138, Tryz.f138), (139, Tryz.f139), (140, Tryz.f140), (141, Tryz.f141), (142, Tryz.f142), (143, Tryz.f143), (144, Tryz.f144), (145, Tryz.f145), (146, Tryz.f146), (147, Tryz.f147), (148, Tryz.f148), (149, Tryz.f149), (150, Tryz.f150), (151, Tryz.f151), (152, Tryz.f152), (153, Tryz.f153), (154, Tryz.f154), (155, Tryz.f155), (156, Tryz.f156), (157, Tryz.f157), (158, Tryz.f158), (159, Tryz.f159), (160, Tryz.f160), (161, Tryz.f161), (162, Tryz.f162), (163, Tryz.f163), (164, Tryz.f164), (165, Tryz.f165), (166, Tryz.f166), (167, Tryz.f167), (168, Tryz.f168), (169, Tryz.f169), (172, Tryz.f172), (173, Tryz.f173), (174, Tryz.f174), (175, Tryz.f175), (177, Tryz.f177), (178, Tryz.f178), (179, Tryz.f179), (180, Tryz.f180), (181, Tryz.f181), (182, Tryz.f182), (183, Tryz.f183), (184, Tryz.f184), (186, Tryz.f186), (187, Tryz.f187), (188, Tryz.f188)], eq := [0, 1, 2, 3, 4, 5, 6, 7, 8, 9, 10, 11, 12, 15, 16, 17, 20, 21, 22, 23, 24, 25, 26, 27, 28, 29, 30, 31, 32, 33, 34, 35, 36, 37, 38, 39, 40, 41, 42, 43, 44, 45, 46, 47, 48, 49, 50, 51, 52, 53, 54, 55, 56, 57, 58, 59, 60, 61, 62, 63, 64, 65, 66, 67, 68, 69, 70, 71, 72, 73, 74, 75, 76, 77, 78, 79, 80, 81, 82, 83, 84, 85, 86, 87, 88, 89, 90, 91, 92, 93, 94, 95, 96, 97, 98, 99, 100, 101, 102, 103, 104, 105, 106, 107, 108, 109, 110, 111, 112, 113, 114, 115, 116, 117, 118, 119, 120, 121, 122, 123, 124, 125, 126, 127, 128, 129, 130, 131, 132, 133, 134, 135, 136, 137, 138, 139, 140, 141, 142, 143, 144, 145, 146, 147, 148, 149, 150, 151, 152, 153, 154, 155, 156, 157, 158, 159, 160, 161, 162, 163, 164, 165, 166, 167, 168, 169, 170, 171, 172, 173, 174, 175, 176, 177, 178, 179, 180, 181, 182, 183, 186, 187, 188, 189, 190, 191, 192, 193, 194, 195, 196, 197, 198, 199, 200, 201, 202, 203, 204, 205, 206, 207, 208, 209, 210, 211, 212, 213, 214, 215, 216, 217, 218, 219, 220, 221, 222, 223, 224, 225, 226, 227, 228, 229, 230, 231, 232, 233, 234, 235, 236, 237, 238, 239, 240, 241, 242, 243, 244, 245, 246, 247, 248, 249, 252, 253, 254, 255, 256, 257, 258, 259, 260, 261, 264, 267, 268, 269, 270, 271] }
theorem tbl_ty : TyOk Tryz.prog tbl.ty := ⟨Tryz.type0, Tryz.type1, Tryz.type2, Tryz.type3, Tryz.type4, Tryz.type5, Tryz.type6, Tryz.type7, Tryz.type8, Tryz.type9, Tryz.type10, Tryz.type11, Tryz.type12, Tryz.type13, Tryz.type14, Tryz.type15, Tryz.type16, Tryz.type17, Tryz.type18, Tryz.type19, Tryz.type20, Tryz.type21, Tryz.type22, Tryz.type23, Tryz.type24, Tryz.type25, Tryz.type26, Tryz.type27, Tryz.type28, Tryz.type29, Tryz.type30, Tryz.type31, Tryz.type32, Tryz.type33, Tryz.type34, Tryz.type35, Tryz.type36, Tryz.type37, Tryz.type38, Tryz.type39, Tryz.type40, Tryz.type41, Tryz.type42, Tryz.type43, Tryz.type44, Tryz.type45, Tryz.type46, Tryz.type47, Tryz.type48, Tryz.type49, Tryz.type50, Tryz.type51, Tryz.type52, Tryz.type53, Tryz.type54, Tryz.type55, Tryz.type56, Tryz.type57, Tryz.type58, Tryz.type59, Tryz.type60, Tryz.type61, Tryz.type62, Tryz.type63, Tryz.type64, Tryz.type65, Tryz.type66, Tryz.type67, Tryz.type68, Tryz.type69, Tryz.type70, Tryz.type71, Tryz.type72, Tryz.type73, Tryz.type74, Tryz.type75, Tryz.type76, Tryz.type77, Tryz.type78, Tryz.type79, Tryz.type80, Tryz.type81, Tryz.type82, Tryz.type83, Tryz.type84, Tryz.type85, Tryz.type86, Tryz.type87, Tryz.type88, Tryz.type89, Tryz.type90, Tryz.type91, Tryz.type92, Tryz.type93, Tryz.type94, Tryz.type95, Tryz.type96, Tryz.type97, Tryz.type98, Tryz.type99, Tryz.type100, Tryz.type101, Tryz.type102, Tryz.type103, Tryz.type104, Tryz.type105, Tryz.type106, Tryz.type107, Tryz.type108, Tryz.type109, Tryz.type110, Tryz.type111, Tryz.type112, Tryz.type113, Tryz.type114, Tryz.type115, Tryz.type116, Tryz.type117, Tryz.type118, Tryz.type119, Tryz.type120, Tryz.type121, Tryz.type122, Tryz.type123, Tryz.type124, Tryz.type125, Tryz.type126, Tryz.type127, Tryz.type128, Tryz.type129, Tryz.type130, Tryz.type131, Tryz.type132, Tryz.type133, Tryz.type134, Tryz.type135, Tryz.type136, Tryz.type137, Tryz.type138, Tryz.type139, Tryz.type140, Tryz.type141, Tryz.type142, Tryz.type143, Tryz.type144, Tryz.type145, Tryz.type146, Tryz.type147, Tryz.type148, Tryz.type149, Tryz.type150, Tryz.type151, Tryz.type152, Tryz.type153, Tryz.type154, Tryz.type155, Tryz.type156, Tryz.type157, Tryz.type158, Tryz.type159, Tryz.type160, Tryz.type161, Tryz.type162, Tryz.type163, Tryz.type164, Tryz.type165, Tryz.type166, Tryz.type167, Tryz.type168, Tryz.type169, Tryz.type170, Tryz.type171, Tryz.type172, Tryz.type173, Tryz.type174, Tryz.type175, Tryz.type176, Tryz.type177, Tryz.type178, Tryz.type179, Tryz.type180, Tryz.type181, Tryz.type182, Tryz.type183, Tryz.type184, Tryz.type185, Tryz.type186, Tryz.type187, Tryz.type188, Tryz.type189, Tryz.type190, Tryz.type191, Tryz.type192, Tryz.type193, Tryz.type194, Tryz.type195, Tryz.type196, Tryz.type197, Tryz.type198, Tryz.type199, Tryz.type200, Tryz.type201, Tryz.type202, Tryz.type203, Tryz.type204, Tryz.type205, Tryz.type206, Tryz.type207, Tryz.type208, Tryz.type209, Tryz.type210, Tryz.type211, Tryz.type212, Tryz.type213, Tryz.type214, Tryz.type215, Tryz.type216, Tryz.type217, Tryz.type218, Tryz.type219, Tryz.type220, Tryz.type221, Tryz.type222, Tryz.type223, Tryz.type224, Tryz.type225, Tryz.type226, Tryz.type227, Tryz.type228, Tryz.type229, Tryz.type230, Tryz.type231, Tryz.type232, Tryz.type233, Tryz.type234, Tryz.type235, Tryz.type236, Tryz.type237, Tryz.type238, Tryz.type239, Tryz.type240, Tryz.type241, Tryz.type242, Tryz.type243, Tryz.type244, Tryz.type245, Tryz.type246, Tryz.type247, Tryz.type248, Tryz.type249, Tryz.type250, Tryz.type251, Tryz.type252, Tryz.type253, Tryz.type254, Tryz.type255, Tryz.type256, Tryz.type257, Tryz.type258, Tryz.type259, Tryz.type260, Tryz.type261, Tryz.type262, Tryz.type263, Tryz.type264, Tryz.type265, Tryz.type266, Tryz.type267, Tryz.type268, Tryz.type269, Tryz.type270, Tryz.type271, Tryz.type272, Tryz.type273, trivial⟩
theorem tbl_fn : FnOk Tryz.prog tbl.fn := ⟨⟨Tryz.func3, fun args w => Tryz.call3 args w⟩, ⟨Tryz.func4, fun args w => Tryz.call4 args w⟩, ⟨Tryz.func5, fun args w => Tryz.call5 args w⟩, ⟨Tryz.func6, fun args w => Tryz.call6 args w⟩, ⟨Tryz.func7, fun args w => Tryz.call7 args w⟩, ⟨Tryz.func8, fun args w => Tryz.call8 args w⟩, ⟨Tryz.func9, fun args w => Tryz.call9 args w⟩, ⟨Tryz.func10, fun args w => Tryz.call10 args w⟩, ⟨Tryz.func11, fun args w => Tryz.call11 args w⟩, ⟨Tryz.func12, fun args w => Tryz.call12 args w⟩, ⟨Tryz.func13, fun args w => Tryz.call13 args w⟩, ⟨Tryz.func14, fun args w => Tryz.call14 args w⟩, ⟨Tryz.func15, fun args w => Tryz.call15 args w⟩, ⟨Tryz.func16, fun args w => Tryz.call16 args w⟩, ⟨Tryz.func17, fun args w => Tryz.call17 args w⟩, ⟨Tryz.func18, fun args w => Tryz.call18 args w⟩, ⟨Tryz.func19, fun args w => Tryz.call19 args w⟩, ⟨Tryz.func20, fun args w => Tryz.call20 args w⟩, ⟨Tryz.func21, fun args w => Tryz.call21 args w⟩, ⟨Tryz.func22, fun args w => Tryz.call22 args w⟩, ⟨Tryz.func23, fun args w => Tryz.call23 args w⟩, ⟨Tryz.func24, fun args w => Tryz.call24 args w⟩, ⟨Tryz.func25, fun args w => Tryz.call25 args w⟩, ⟨Tryz.func26, fun args w => Tryz.call26 args w⟩, ⟨Tryz.func27, fun args w => Tryz.call27 args w⟩, ⟨Tryz.func28, fun args w => Tryz.call28 args w⟩, ⟨Tryz.func29, fun args w => Tryz.call29 args w⟩, ⟨Tryz.func30, fun args w => Tryz.call30 args w⟩, ⟨Tryz.func31, fun args w => Tryz.call31 args w⟩, ⟨Tryz.func32, fun args w => Tryz.call32 args w⟩, ⟨Tryz.func33, fun args w => Tryz.call33 args w⟩, ⟨Tryz.func34, fun args w => Tryz.call34 args w⟩, ⟨Tryz.func35, fun args w => Tryz.call35 args w⟩, ⟨Tryz.func36, fun args w => Tryz.call36 args w⟩, ⟨Tryz.func37, fun args w => Tryz.call37 args w⟩, ⟨Tryz.func38, fun args w => Tryz.call38 args w⟩, ⟨Tryz.func39, fun args w => Tryz.call39 args w⟩, ⟨Tryz.func40, fun args w => Tryz.call40 args w⟩, ⟨Tryz.func41, fun args w => Tryz.call41 args w⟩, ⟨Tryz.func42, fun args w => Tryz.call42 args w⟩, ⟨Tryz.func43, fun args w => Tryz.call43 args w⟩, ⟨Tryz.func44, fun args w => Tryz.call44 args w⟩, ⟨Tryz.func45, fun args w => Tryz.call45 args w⟩, ⟨Tryz.func46, fun args w => Tryz.call46 args w⟩, ⟨Tryz.func47, fun args w => Tryz.call47 args w⟩, ⟨Tryz.func48, fun args w => Tryz.call48 args w⟩, ⟨Tryz.func49, fun args w => Tryz.call49 args w⟩, ⟨Tryz.func50, fun args w => Tryz.call50 args w⟩, ⟨Tryz.func51, fun args w => Tryz.call51 args w⟩, ⟨Tryz.func52, fun args w => Tryz.call52 args w⟩, ⟨Tryz.func53, fun args w => Tryz.call53 args w⟩, ⟨Tryz.func54, fun args w => Tryz.call54 args w⟩, ⟨Tryz.func55, fun args w => Tryz.call55 args w⟩, ⟨Tryz.func56, fun args w => Tryz.call56 args w⟩, ⟨Tryz.func57, fun args w => Tryz.call57 args w⟩, ⟨Tryz.func58, fun args w => Tryz.call58 args w⟩, ⟨Tryz.func59, fun args w => Tryz.call59 args w⟩, ⟨Tryz.func60, fun args w => Tryz.call60 args w⟩, ⟨Tryz.func61, fun args w => Tryz.call61 args w⟩, ⟨Tryz.func62, fun args w => Tryz.call62 args w⟩, ⟨Tryz.func63, fun args w => Tryz.call63 args w⟩, ⟨Tryz.func64, fun args w => Tryz.call64 args w⟩, ⟨Tryz.func65, fun args w => Tryz.call65 args w⟩, ⟨Tryz.func66, fun args w => Tryz.call66 args w⟩, ⟨Tryz.func67, fun args w => Tryz.call67 args w⟩, ⟨Tryz.func68, fun args w => Tryz.call68 args w⟩, ⟨Tryz.func69, fun args w => Tryz.call69 args w⟩, ⟨Tryz.func70, fun args w => Tryz.call70 args w⟩, ⟨Tryz.func71, fun args w => Tryz.call71 args w⟩, ⟨Tryz.func72, fun args w => Tryz.call72 args w⟩, ⟨Tryz.func73, fun args w => Tryz.call73 args w⟩, ⟨Tryz.func74, fun args w => Tryz.call74 args w⟩, ⟨Tryz.func75, fun args w => Tryz.call75 args w⟩, ⟨Tryz.func76, fun args w => Tryz.call76 args w⟩, ⟨Tryz.func77, fun args w => Tryz.call77 args w⟩, ⟨Tryz.func78, fun args w => Tryz.call78 args w⟩, ⟨Tryz.func79, fun args w => Tryz.call79 args w⟩, ⟨Tryz.func80, fun args w => Tryz.call80 args w⟩, ⟨Tryz.func81, fun args w => Tryz.call81 args w⟩, ⟨Tryz.func82, fun args w => Tryz.call82 args w⟩, ⟨Tryz.func83, fun args w => Tryz.call83 args w⟩, ⟨Tryz.func84, fun args w => Tryz.call84 args w⟩, ⟨Tryz.func85, fun args w => Tryz.call85 args w⟩, ⟨Tryz.func86, fun args w => Tryz.call86 args w⟩, ⟨Tryz.func87, fun args w => Tryz.call87 args w⟩, ⟨Tryz.func88, fun args w => Tryz.call88 args w⟩, ⟨Tryz.func89, fun args w => Tryz.call89 args w⟩, ⟨Tryz.func90, fun args w => Tryz.call90 args w⟩, ⟨Tryz.func91, fun args w => Tryz.call91 args w⟩, ⟨Tryz.func92, fun args w => Tryz.call92 args w⟩, ⟨Tryz.func93, fun args w => Tryz.call93 args w⟩, ⟨Tryz.func94, fun args w => Tryz.call94 args w⟩, ⟨Tryz.func95, fun args w => Tryz.call95 args w⟩, ⟨Tryz.func96, fun args w => Tryz.call96 args w⟩, ⟨Tryz.func97, fun args w => Tryz.call97 args w⟩, ⟨Tryz.func98, fun args w => Tryz.call98 args w⟩, ⟨Tryz.func99, fun args w => Tryz.call99 args w⟩, ⟨Tryz.func100, fun args w => Tryz.call100 args w⟩, ⟨Tryz.func101, fun args w => Tryz.call101 args w⟩, ⟨Tryz.func102, fun args w => Tryz.call102 args w⟩, ⟨Tryz.func103, fun args w => Tryz.call103 args w⟩, ⟨Tryz.func104, fun args w => Tryz.call104 args w⟩, ⟨Tryz.func105, fun args w => Tryz.call105 args w⟩, ⟨Tryz.func106, fun args w => Tryz.call106 args w⟩, ⟨Tryz.func107, fun args w => Tryz.call107 args w⟩, ⟨Tryz.func108, fun args w => Tryz.call108 args w⟩, ⟨Tryz.func109, fun args w => Tryz.call109 args w⟩, ⟨Tryz.func110, fun args w => Tryz.call110 args w⟩, ⟨Tryz.func111, fun args w => Tryz.call111 args w⟩, ⟨Tryz.func112, fun args w => Tryz.call112 args w⟩, ⟨Tryz.func113, fun args w => Tryz.call113 args w⟩, ⟨Tryz.func114, fun args w => Tryz.call114 args w⟩, ⟨Tryz.func115, fun args w => Tryz.call115 args w⟩, ⟨Tryz.func116, fun args w => Tryz.call116 args w⟩, ⟨Tryz.func117, fun args w => Tryz.call117 args w⟩, ⟨Tryz.func118, fun args w => Tryz.call118 args w⟩, ⟨Tryz.func119, fun args w => Tryz.call119 args w⟩, ⟨Tryz.func120, fun args w => Tryz.call120 args w⟩, ⟨Tryz.func121, fun args w => Tryz.call121 args w⟩, ⟨Tryz.func122, fun args w => Tryz.call122 args w⟩, ⟨Tryz.func123, fun args w => Tryz.call123 args w⟩, ⟨Tryz.func124, fun args w => Tryz.call124 args w⟩, ⟨Tryz.func125, fun args w => Tryz.call125 args w⟩, ⟨Tryz.func126, fun args w => Tryz.call126 args w⟩, ⟨Tryz.func127, fun args w => Tryz.call127 args w⟩, ⟨Tryz.func128, fun args w => Tryz.call128 args w⟩, ⟨Tryz.func129, fun args w => Tryz.call129 args w⟩, ⟨Tryz.func130, fun args w => Tryz.call130 args w⟩, ⟨Tryz.func131, fun args w => Tryz.call131 args w⟩, ⟨Tryz.func132, fun args w => Tryz.call132 args w⟩, ⟨Tryz.func133, fun args w => Tryz.call133 args w⟩, ⟨Tryz.func134, fun args w => Tryz.call134 args w⟩, ⟨Tryz.func135, fun args w => Tryz.call135 args w⟩, ⟨Tryz.func136, fun args w => Tryz.call136 args w⟩, ⟨Tryz.func137, fun args w => Tryz.call137 args w⟩, ⟨Tryz.func138, fun args w => Tryz.call138 args w⟩, ⟨Tryz.func139, fun args w => Tryz.call139 args w⟩, ⟨Tryz.func140, fun args w => Tryz.call140 args w⟩, ⟨Tryz.func141, fun args w => Tryz.call141 args w⟩, ⟨Tryz.func142, fun args w => Tryz.call142 args w⟩, ⟨Tryz.func143, fun args w => Tryz.call143 args w⟩, ⟨Tryz.func144, fun args w => Tryz.call144 args w⟩, ⟨Tryz.func145, fun args w => Tryz.call145 args w⟩, ⟨Tryz.func146, fun args w => Tryz.call146 args w⟩, ⟨Tryz.func147, fun args w => Tryz.call147 args w⟩, ⟨Tryz.func148, fun args w => Tryz.call148 args w⟩, ⟨Tryz.func149, fun args w => Tryz.call149 args w⟩, ⟨Tryz.func150, fun args w => Tryz.call150 args w⟩, ⟨Tryz.func151, fun args w => Tryz.call151 args w⟩, ⟨Tryz.func152, fun args w => Tryz.call152 args w⟩, ⟨Tryz.func153, fun args w => Tryz.call153 args w⟩, ⟨Tryz.func154, fun args w => Tryz.call154 args w⟩, ⟨Tryz.func155, fun args w => Tryz.call155 args w⟩, ⟨Tryz.func156, fun args w => Tryz.call156 args w⟩, ⟨Tryz.func157, fun args w => Tryz.call157 args w⟩, ⟨Tryz.func158, fun args w => Tryz.call158 args w⟩, ⟨Tryz.func159, fun args w => Tryz.call159 args w⟩, ⟨Tryz.func160, fun args w => Tryz.call160 args w⟩, ⟨Tryz.func161, fun args w => Tryz.call161 args w⟩, ⟨Tryz.func162, fun args w => Tryz.call162 args w⟩, ⟨Tryz.func163, fun args w => Tryz.call163 args w⟩, ⟨Tryz.func164, fun args w => Tryz.call164 args w⟩, ⟨Tryz.func165, fun args w => Tryz.call165 args w⟩, ⟨Tryz.func166, fun args w => Tryz.call166 args w⟩, ⟨Tryz.func167, fun args w => Tryz.call167 args w⟩, ⟨Tryz.func168, fun args w => Tryz.call168 args w⟩, ⟨Tryz.func169, fun args w => Tryz.call169 args w⟩, ⟨Tryz.func172, fun args w => Tryz.call172 args w⟩, ⟨Tryz.func173, fun args w => Tryz.call173 args w⟩, ⟨Tryz.func174, fun args w => Tryz.call174 args w⟩, ⟨Tryz.func175, fun args w => Tryz.call175 args w⟩, ⟨Tryz.func177, fun args w => Tryz.call177 args w⟩, ⟨Tryz.func178, fun args w => Tryz.call178 args w⟩, ⟨Tryz.func179, fun args w => Tryz.call179 args w⟩, ⟨Tryz.func180, fun args w => Tryz.call180 args w⟩, ⟨Tryz.func181, fun args w => Tryz.call181 args w⟩, ⟨Tryz.func182, fun args w => Tryz.call182 args w⟩, ⟨Tryz.func183, fun args w => Tryz.call183 args w⟩, ⟨Tryz.func184, fun args w => Tryz.call184 args w⟩, ⟨Tryz.func186, fun args w => Tryz.call186 args w⟩, ⟨Tryz.func187, fun args w => Tryz.call187 args w⟩, ⟨Tryz.func188, fun args w => Tryz.call188 args w⟩, trivial⟩
theorem tbl_eq : (tbl.eq.all fun t => !Tryz.prog.stoodInHeld t && !Tryz.prog.eqGuardType Tryz.prog.depth t) = true := by kernel_rfl
theorem tbl_ok : TbOk Tryz.prog tbl := ⟨tbl_ty, tbl_fn, fun t ht => by
 have h := List.all_eq_true.1 tbl_eq t ht
 simpa using h⟩
theorem tbl_any : Tryz.prog.follows .mixedOrders = true := by kernel_rfl
end Go.Proofs.YtmpilgkfbibhlaaGreatDoor
