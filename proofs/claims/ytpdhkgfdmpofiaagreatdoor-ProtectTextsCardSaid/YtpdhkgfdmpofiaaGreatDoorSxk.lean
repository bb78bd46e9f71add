/-
  A region; ways that meet again.
-/
import Derived.Test.YtpdhkgfdmpofiaaGreatDoorSxj
set_option linter.unusedSimpArgs false
set_option linter.unusedVariables false
namespace Go.Proofs.YtpdhkgfdmpofiaaGreatDoor
namespace Sx
open Go.RowKit

section
variable {P : Program} {tb : Tb}

/-- The way that is gone. -/
def Tree.At {α : Type} : Tree α → α → Prop
  | .leaf x, y => x = y
  | .br b t f, y => (b = true ∧ t.At y) ∨ (b = false ∧ f.At y)
  | .must b t, y => b = true ∧ t.At y
  | .fail, _ => False
theorem Tree.At.all {α : Type} {p : α → Prop} {x : α} : ∀ {t : Tree α}, t.At x → t.All p → p x
  | .leaf y, h, k => by obtain rfl : y = x := h; exact k
  | .br b t f, h, k => by
    rcases h with ⟨hb, h⟩ | ⟨hb, h⟩
    · exact h.all (k.1 hb)
    · exact h.all (k.2 hb)
  | .must b t, h, k => h.2.all k.2
  | .fail, h, _ => h.elim
theorem Tree.All.at_ {α : Type} {p : α → Prop} : ∀ {t : Tree α}, t.All p → ∃ x, t.At x ∧ p x
  | .leaf y, k => ⟨y, rfl, k⟩
  | .br b t f, k => by
    cases hb : b with
    | true => obtain ⟨x, h1, h2⟩ := (k.1 hb).at_; exact ⟨x, Or.inl ⟨rfl, h1⟩, h2⟩
    | false => obtain ⟨x, h1, h2⟩ := (k.2 hb).at_; exact ⟨x, Or.inr ⟨rfl, h1⟩, h2⟩
  | .must b t, k => by obtain ⟨x, h1, h2⟩ := k.2.at_; exact ⟨x, ⟨k.1, h1⟩, h2⟩
  | .fail, k => k.elim
theorem Tree.At.eqAll {α : Type} {x : α} : ∀ {t : Tree α}, t.At x → t.All (· = x)
  | .leaf y, h => h
  | .br b t f, h => by
    rcases h with ⟨hb, h⟩ | ⟨hb, h⟩
    · exact ⟨fun _ => h.eqAll, fun hf => absurd (hb.symm.trans hf) (by decide)⟩
    · exact ⟨fun ht => absurd (hb.symm.trans ht) (by decide), fun _ => h.eqAll⟩
  | .must b t, h => ⟨h.1, h.2.eqAll⟩
  | .fail, h => h.elim
theorem Tree.At_bind {α β : Type} {g : α → Tree β} {y : β} : ∀ {t : Tree α}, (t.bind g).At y ↔ ∃ x, t.At x ∧ (g x).At y
  | .leaf x => ⟨fun h => ⟨x, rfl, h⟩, fun ⟨_, h1, h2⟩ => by obtain rfl := h1; exact h2⟩
  | .br b t f => by
    simp only [Tree.bind, Tree.At, Tree.At_bind (t := t), Tree.At_bind (t := f)]
    constructor
    · rintro (⟨hb, x, h1, h2⟩ | ⟨hb, x, h1, h2⟩)
      · exact ⟨x, Or.inl ⟨hb, h1⟩, h2⟩
      · exact ⟨x, Or.inr ⟨hb, h1⟩, h2⟩
    · rintro ⟨x, ⟨hb, h1⟩ | ⟨hb, h1⟩, h2⟩
      · exact Or.inl ⟨hb, x, h1, h2⟩
      · exact Or.inr ⟨hb, x, h1, h2⟩
  | .must b t => by
    simp only [Tree.bind, Tree.At, Tree.At_bind (t := t)]
    constructor
    · rintro ⟨hb, x, h1, h2⟩; exact ⟨x, ⟨hb, h1⟩, h2⟩
    · rintro ⟨x, ⟨hb, h1⟩, h2⟩; exact ⟨hb, x, h1, h2⟩
  | .fail => ⟨fun h => h.elim, fun ⟨_, h, _⟩ => h.elim⟩

/-! places that meet -/
inductive Dm where
  | t (n : Nat)
  | c (id off : Nat)
  | b (id : Nat)
  | n (c : Nat)
def Wr.dom : Wr → Dm
  | .tm n _ => .t n
  | .ft n => .t n
  | .cell id off _ => .c id off
  | .new id _ => .b id
  | .nm c => .n c
def lOv : Dm → Loc → Bool
  | .t n, .t m => Nat.beq n m
  | .c id off, .c i o => Nat.beq id i && Nat.beq off o
  | .b id, .k i => Nat.beq id i
  | .b id, .c i _ => Nat.beq id i
  | .n c, .n d => Nat.beq c d
  | _, _ => false
def dOv : Dm → Dm → Bool
  | .t n, .t m => Nat.beq n m
  | .c id off, .c i o => Nat.beq id i && Nat.beq off o
  | .b id, .b i => Nat.beq id i
  | .b id, .c i _ => Nat.beq id i
  | .c i _, .b id => Nat.beq id i
  | .n c, .n d => Nat.beq c d
  | _, _ => false
theorem fn_dom {x : Wr} {l : Loc} (h : (x.fn l).isSome = true) : lOv x.dom l = true := by
  cases x <;> cases l <;> simp only [Wr.fn] at h <;> first
    | cases h; done
    | (split at h
       · rename_i e
         first
           | (subst e; exact Nat.beq_refl _)
           | (obtain ⟨rfl, rfl⟩ := e; simp [lOv, Wr.dom])
       · cases h)
theorem ov_of {a b : Dm} {l : Loc} (h1 : lOv a l = true) (h2 : lOv b l = true) : dOv a b = true := by
  cases l <;> cases a <;> simp only [lOv] at h1 <;> (try (cases h1; done)) <;> cases b <;> simp only [lOv] at h2 <;> (try (cases h2; done)) <;>
    simp only [Bool.and_eq_true, beq_iff'] at h1 h2 <;> simp only [dOv, Bool.and_eq_true, beq_iff'] <;> omega
theorem fns_some {l : Loc} : ∀ {ws : List Wr}, (fns ws l).isSome = true → ∃ x ∈ ws, (x.fn l).isSome = true
  | [], h => by cases h
  | x :: ws, h => by
    simp only [fns] at h
    cases hf : fns ws l with
    | some y => obtain ⟨z, h1, h2⟩ := fns_some (ws := ws) (l := l) (by rw [hf]; rfl); exact ⟨z, List.mem_cons_of_mem _ h1, h2⟩
    | none => rw [hf] at h; exact ⟨x, List.mem_cons_self, h⟩
/-- What one operation looks at and writes. -/
structure Tr where
  σ : St
  locs : List Loc
  ws : List Wr
def ovWW (a b : List Wr) : Bool := a.any fun x => b.any fun y => dOv x.dom y.dom
def ovWR (a : List Wr) (r : List Loc) : Bool := a.any fun x => r.any fun l => lOv x.dom l
def noConf (x y : Tr) : Bool := !(ovWW x.ws y.ws || (ovWR x.ws y.locs || ovWR y.ws x.locs))
def confJ (m : Nat) (y : Tr) : Nat → List Tr → Bool
  | _, [] => true
  | i, x :: l => (m.testBit i || noConf x y) && confJ m y (i + 1) l
def confB (l : List Tr) (ms : List Nat) : Bool := (List.range l.length).all fun j => match l[j]? with
  | some y => confJ (ms.getD j 0) y 0 (l.take j)
  | none => true
theorem confJ_at {m : Nat} {y : Tr} : ∀ {l : List Tr} {k : Nat}, confJ m y k l = true → ∀ i x, l[i]? = some x → (m.testBit (k + i) || noConf x y) = true
  | [], k, h, i, x, hx => by simp at hx
  | z :: l, k, h, i, x, hx => by
    simp only [confJ, Bool.and_eq_true] at h
    cases i with
    | zero => obtain rfl : z = x := by simpa using hx
              exact h.1
    | succ i => have := confJ_at h.2 i x (by simpa using hx); rwa [show k + 1 + i = k + (i + 1) by omega] at this
def partOf (x : Tr) : Part Loc LV := ⟨x.locs.map fun l => (l, look x.σ l), fns x.ws⟩
def partAt (l : List Tr) (i : Nat) : Part Loc LV := match l[i]? with
  | some x => partOf x
  | none => ⟨[], fun _ => none⟩
theorem confB_ok {l : List Tr} {ms : List Nat} (h : confB l ms = true) : ∀ i j, i < j → j < l.length → ∀ x, ((((partAt l i).wr x).isSome = true ∧ (((partAt l j).wr x).isSome = true ∨ x ∈ (partAt l j).rd.map (·.1))) ∨ (x ∈ (partAt l i).rd.map (·.1) ∧ ((partAt l j).wr x).isSome = true)) → (ms.getD j 0).testBit i = true := by
  intro i j hij hj x hx
  have hi : i < l.length := by omega
  have hjl : l[j]? = some l[j] := List.getElem?_eq_getElem hj
  have hil : l[i]? = some l[i] := List.getElem?_eq_getElem hi
  have h1 := List.all_eq_true.1 h j (List.mem_range.2 hj)
  rw [hjl] at h1
  simp only [] at h1
  have h2 := confJ_at h1 i l[i] (by rw [List.getElem?_take_of_lt hij]; exact hil)
  rw [Nat.zero_add, Bool.or_eq_true] at h2
  rcases h2 with h2 | h2
  · exact h2
  · exfalso
    have ei : partAt l i = partOf l[i] := by unfold partAt; rw [hil]
    have ej : partAt l j = partOf l[j] := by unfold partAt; rw [hjl]
    rw [ei, ej] at hx
    unfold noConf at h2
    have rdl : ∀ (y : Tr), x ∈ (partOf y).rd.map (·.1) → x ∈ y.locs := by
      intro y hy
      simp only [partOf, List.map_map] at hy
      obtain ⟨z, hz, rfl⟩ := List.mem_map.1 hy
      exact hz
    have ww : ∀ (y z : Tr), (fns y.ws x).isSome = true → (fns z.ws x).isSome = true → ovWW y.ws z.ws = true := by
      intro y z hy hz
      obtain ⟨p, p1, p2⟩ := fns_some hy
      obtain ⟨q, q1, q2⟩ := fns_some hz
      exact List.any_eq_true.2 ⟨p, p1, List.any_eq_true.2 ⟨q, q1, ov_of (fn_dom p2) (fn_dom q2)⟩⟩
    have wr : ∀ (y z : Tr), (fns y.ws x).isSome = true → x ∈ z.locs → ovWR y.ws z.locs = true := by
      intro y z hy hz
      obtain ⟨p, p1, p2⟩ := fns_some hy
      exact List.any_eq_true.2 ⟨p, p1, List.any_eq_true.2 ⟨x, hz, fn_dom p2⟩⟩
    rw [Bool.not_eq_true', Bool.or_eq_false_iff, Bool.or_eq_false_iff] at h2
    obtain ⟨n1, n2, n3⟩ := h2
    rcases hx with ⟨a1, a2 | a2⟩ | ⟨a1, a2⟩
    · rw [ww _ _ a1 a2] at n1; cases n1
    · rw [wr _ _ a1 (rdl _ a2)] at n2; cases n2
    · rw [wr _ _ a2 (rdl _ a1)] at n3; cases n3

def evOps (tb : Tb) (wf : List FuncId) (call : CallF) (N : Nat) (ops : Array Oper) : List Oper → St → Kn → List Tr → Tree (St × List Tr)
  | [], σ, _, acc => .leaf (σ, acc.reverse)
  | o :: rest, σ, kn, acc => (evOp tb wf call N ops σ kn o).bind fun x => evOps tb wf call N ops rest x.σ x.kn (⟨σ, x.locs, x.ws⟩ :: acc)
/-- A run in the order of the text. -/
def Run (P : Program) (ops : Array Oper) (N : Nat) : Nat → St → List Tr → St → Prop
  | _, σ, [], σ' => σ = σ'
  | i, σ, x :: l, σ' => x.σ = σ ∧ PartOk P ops N σ i ⟨σ, [], x.locs, x.ws⟩ ∧ ∃ σ1, σ.apps x.ws = some σ1 ∧ Run P ops N (i + 1) σ1 l σ'
theorem evOps_ok {wf : List FuncId} {call : CallF} (hT : TbOk P tb) (hc : CallFOk P call) {N : Nat} {ops : Array Oper} : ∀ (l : List Oper) (i : Nat) (σ : St) (kn : Kn) (acc : List Tr), (∀ j o, l[j]? = some o → ops[i + j]? = some o) → KnOk σ kn →
    ∀ y, (evOps tb wf call N ops l σ kn acc).At y → ∃ r, y.2 = acc.reverse ++ r ∧ r.length = l.length ∧ Run P ops N i σ r y.1
  | [], i, σ, kn, acc, _, _, y, h => by
    obtain rfl : _ = y := h
    exact ⟨[], by simp, rfl, rfl⟩
  | o :: rest, i, σ, kn, acc, hl, hk, y, h => by
    obtain ⟨x, h1, h2⟩ := Tree.At_bind.1 h
    obtain ⟨x', rfl, hx⟩ := evOp_ok (P := P) hT hc (i := i) (hl 0 o rfl) hk h1.eqAll
    obtain ⟨r, r1, r2, r3⟩ := evOps_ok hT hc rest (i + 1) x'.σ x'.kn _ (fun j o' hj => by rw [show i + 1 + j = i + (j + 1) by omega]; exact hl (j + 1) o' (by simpa using hj)) hx.kn y h2
    refine ⟨⟨σ, x'.locs, x'.ws⟩ :: r, by rw [r1]; simp, by simp [r2], rfl, hx.part, x'.σ, hx.app, r3⟩
def apAll (σ : St) : List Tr → Option St
  | [] => some σ
  | x :: l => match σ.apps x.ws with
    | some σ1 => apAll σ1 l
    | none => none
/-- Along a run. -/
theorem Run.at_ {ops : Array Oper} {N : Nat} : ∀ {l : List Tr} {i : Nat} {σ σ' : St}, Run P ops N i σ l σ' → ∀ (f : Nat → Part Loc LV) (s0 : Loc → Option LV), (∀ j, j < l.length → f (i + j) = partAt l j) → stAt f s0 (fun _ => true) i = look σ →
    (∀ j x, l[j]? = some x → stAt f s0 (fun _ => true) (i + j) = look x.σ ∧ PartOk P ops N x.σ (i + j) ⟨x.σ, [], x.locs, x.ws⟩) ∧ stAt f s0 (fun _ => true) (i + l.length) = look σ'
  | [], i, σ, σ', h, f, s0, hf, hs => by
    obtain rfl : σ = σ' := h
    exact ⟨fun j x hj => by simp at hj, by simpa using hs⟩
  | x :: l, i, σ, σ', h, f, s0, hf, hs => by
    obtain ⟨h1, h2, σ1, h3, h4⟩ := h
    have hn : stAt f s0 (fun _ => true) (i + 1) = look σ1 := by
      show (if true = true then _ else _) = _
      rw [if_pos rfl, hs, look_apps h3, upds_fns]
      have := hf 0 (by simp)
      rw [Nat.add_zero] at this
      rw [this]
      rfl
    obtain ⟨k1, k2⟩ := Run.at_ h4 f s0 (fun j hj => by
      have := hf (j + 1) (by simp; omega)
      rw [show i + 1 + j = i + (j + 1) by omega, this]
      rfl) hn
    refine ⟨fun j y hj => ?_, by rw [show i + (x :: l).length = i + 1 + l.length by simp; omega]; exact k2⟩
    cases j with
    | zero =>
      obtain rfl : x = y := by simpa using hj
      subst h1
      exact ⟨hs, h2⟩
    | succ j =>
      have := k1 j y (by simpa using hj)
      rwa [show i + 1 + j = i + (j + 1) by omega] at this
def evReg (tb : Tb) (wf : List FuncId) (call : CallF) (N : Nat) (ops : Array Oper) (draw : Bool) (σ : St) : Tree St :=
  (evOps tb wf call N ops ops.toList σ [] []).bind fun p => match draw with
    | false => .leaf p.1
    | true => match early ops && confB p.2 (masks ops ops.size) with
      | true => .leaf p.1
      | false => .fail
/-- What has been written since. -/
def Ext (σ σ' : St) : Prop := ∃ ws, σ.apps ws = some σ' ∧ σ'.lg = ws.reverse ++ σ.lg
theorem Ext.refl (σ : St) : Ext σ σ := ⟨[], rfl, rfl⟩
theorem Ext.trans {a b c : St} (h : Ext a b) (k : Ext b c) : Ext a c := by
  obtain ⟨u, h1, h2⟩ := h
  obtain ⟨v, k1, k2⟩ := k
  exact ⟨u ++ v, by rw [apps_append, h1]; exact k1, by rw [k2, h2]; simp⟩
theorem Ext.apps {ws : List Wr} : ∀ {σ σ' : St}, σ.apps ws = some σ' → Ext σ σ' := by
  induction ws with
  | nil => intro σ σ' h; obtain rfl := Option.some.inj h; exact Ext.refl _
  | cons x ws ih =>
    intro σ σ' h
    have h0 := h
    simp only [St.apps] at h
    split at h
    · rename_i hw
      refine Ext.trans (b := σ.app x) ⟨[x], by simp [St.apps, hw], ?_⟩ (ih h)
      cases x <;> rfl
    · cases h
theorem Run.ext {ops : Array Oper} {N : Nat} : ∀ {l : List Tr} {i : Nat} {σ σ' : St}, Run P ops N i σ l σ' → Ext σ σ'
  | [], _, _, _, h => by obtain rfl := h; exact Ext.refl _
  | x :: l, i, σ, σ', h => by
    obtain ⟨_, _, σ1, h3, h4⟩ := h
    exact (Ext.apps h3).trans (Run.ext h4)
theorem evReg_ok {wf : List FuncId} {call : CallF} (hT : TbOk P tb) (hm : P.follows .mixedOrders = true) (hc : CallFOk P call) {N id : Nat} {ops : Array Oper} {draw : Bool} {σ σ' : St} (h : (evReg tb wf call N ops draw σ).At σ') :
    Ext σ σ' ∧ ∀ (C : Ctx) (e : Env) (a : Act) (w : World) (Q : Exit → Act → World → Prop), Rel C N e (look σ) a w → (∀ e' a' w', Rel C N e' (look σ') a' w' → Q .normal a' w') → (Code.region id ops draw).wp P Q a w := by
  obtain ⟨y, h1, h2⟩ := Tree.At_bind.1 h
  obtain ⟨r, r1, r2, r3⟩ := evOps_ok (P := P) hT hc ops.toList 0 σ [] [] (fun j o hj => by rw [Nat.zero_add, ← Array.getElem?_toList]; exact hj) (fun t d hd => by cases hd) y h1
  have r2' : r.length = ops.size := by rw [r2]; simp
  simp only [List.reverse_nil, List.nil_append] at r1
  subst r1
  have hrun : ∀ s0, s0 = look σ → _ := fun s0 hs0 => Run.at_ r3 (partAt y.2) s0 (fun j _ => by rw [Nat.zero_add]) (show s0 = look σ from hs0)
  obtain ⟨k1, k2⟩ := hrun _ rfl
  rw [Nat.zero_add, r2'] at k2
  have hok : ∀ (C : Ctx) (Q : Exit → Act → World → Prop) i, i < ops.size → ∀ s a w (K : Act → World → Prop), (∃ e, Rel C N e s a w) → (∀ p ∈ (partAt y.2 i).rd, s p.1 = p.2) → (∀ a' w', (∃ e, Rel C N e ((partAt y.2 i).upd s) a' w') → K a' w') → wpOp P ops Q i K a w := by
    intro C Q i hi s a w K hR hrd hK
    have hx : y.2[i]? = some (y.2[i]'(by omega)) := List.getElem?_eq_getElem (by omega)
    generalize hxx : y.2[i]'(by omega) = x at hx
    have hp := (k1 i x hx).2
    rw [Nat.zero_add] at hp
    have he : partAt y.2 i = partOf x := by unfold partAt; rw [hx]
    rw [he] at hrd hK
    refine hp C Q s a w K hR (fun l hl => hrd (l, look x.σ l) (List.mem_map.2 ⟨l, hl, rfl⟩)) fun a' w' hR' => hK a' w' ?_
    rw [upds_fns] at hR'
    exact hR'
  have htext : ∀ i, i < ops.size → ∀ p ∈ (partAt y.2 i).rd, stAt (partAt y.2) (look σ) (fun _ => true) i p.1 = p.2 := by
    intro i hi p hp
    have hx : y.2[i]? = some (y.2[i]'(by omega)) := List.getElem?_eq_getElem (by omega)
    generalize hxx : y.2[i]'(by omega) = x at hx
    have he : partAt y.2 i = partOf x := by unfold partAt; rw [hx]
    rw [he] at hp
    obtain ⟨l, _, rfl⟩ := List.mem_map.1 hp
    have := (k1 i x hx).1
    rw [Nat.zero_add] at this
    rw [this]
  cases draw with
  | false =>
    obtain rfl : y.1 = σ' := h2
    refine ⟨r3.ext, fun C e a w Q hR hQ => ?_⟩
    exact region_text (fun s a w => ∃ e, Rel C N e s a w) (partAt y.2) (look σ) (hok C Q) htext ⟨e, hR⟩ fun a' w' ⟨e', hR'⟩ => hQ e' a' w' (by rw [← k2]; exact hR')
  | true =>
    simp only [] at h2
    split at h2
    · rename_i hb
      rw [Bool.and_eq_true] at hb
      obtain rfl : y.1 = σ' := h2
      refine ⟨r3.ext, fun C e a w Q hR hQ => ?_⟩
      refine region_parts hm hb.1 (fun s a w => ∃ e, Rel C N e s a w) (partAt y.2) (look σ) (hok C Q) htext ?_ ⟨e, hR.drew⟩ fun a' w' ⟨e', hR'⟩ => hQ e' a' w' (by rw [← k2]; exact hR')
      intro i j hij hj x hx
      exact confB_ok hb.2 i j hij (by omega) x hx
    · exact h2.elim
end
end Sx
end Go.Proofs.YtpdhkgfdmpofiaaGreatDoor
