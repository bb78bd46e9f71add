/-
  Code and functions.
-/
import Derived.Test.YtpdhkgfdmpofiaaGreatDoorSxl
set_option linter.unusedSimpArgs false
set_option linter.unusedVariables false
namespace Go.Proofs.YtpdhkgfdmpofiaaGreatDoor
namespace Sx
open Go.RowKit

section
variable {P : Program} {tb : Tb}

/-- Each leaf, whatever the tests. -/
def Tree.Every {α : Type} (p : α → Prop) : Tree α → Prop
  | .leaf x => p x
  | .br _ t f => t.Every p ∧ f.Every p
  | .must _ t => t.Every p
  | .fail => True
theorem Tree.Every.bind {α β : Type} {p : β → Prop} {g : α → Tree β} : ∀ {t : Tree α}, t.Every (fun x => (g x).Every p) → (t.bind g).Every p
  | .leaf _, h => h
  | .br _ _ _, h => ⟨h.1.bind, h.2.bind⟩
  | .must _ t, h => Tree.Every.bind (t := t) h
  | .fail, _ => trivial
theorem Tree.Every.mono {α : Type} {p q : α → Prop} (h : ∀ x, p x → q x) : ∀ {t : Tree α}, t.Every p → t.Every q
  | .leaf x, k => h x k
  | .br _ _ _, k => ⟨k.1.mono h, k.2.mono h⟩
  | .must _ t, k => Tree.Every.mono (t := t) h k
  | .fail, _ => trivial
theorem Tree.Every.at_ {α : Type} {p : α → Prop} {x : α} : ∀ {t : Tree α}, t.Every p → t.At x → p x
  | .leaf _, h, k => by obtain rfl := k; exact h
  | .br _ _ _, h, k => by
    rcases k with ⟨_, k⟩ | ⟨_, k⟩
    · exact h.1.at_ k
    · exact h.2.at_ k
  | .must _ t, h, k => Tree.Every.at_ (t := t) h k.2
  | .fail, _, k => k.elim
theorem Tree.every_true {α : Type} : ∀ {t : Tree α}, t.Every fun _ => True
  | .leaf _ => trivial
  | .br _ _ _ => ⟨Tree.every_true, Tree.every_true⟩
  | .must _ t => Tree.every_true (t := t)
  | .fail => trivial
theorem finish_every {N : Nat} {σ : St} {kn : Kn} {dst : Option Tmp} {pre : List Loc} {E : OpE} : (finish N σ kn dst pre E).Every fun x => Ext σ x.σ := by
  rw [finish_eq]
  split
  · split
    · rename_i h; exact Ext.apps h
    · trivial
  · trivial
theorem evOp_every {wf : List FuncId} {call : CallF} {N : Nat} {ops : Array Oper} {σ : St} {kn : Kn} {o : Oper} : (evOp tb wf call N ops σ kn o).Every fun x => Ext σ x.σ := by
  have yes : ∀ (t : Tree OpE) (kn : Kn) (pre : List Loc), (t.bind (finish N σ kn o.dst pre)).Every fun x => Ext σ x.σ := fun t kn pre => Tree.Every.bind (Tree.every_true.mono fun _ _ => finish_every)
  unfold evOp
  simp only []
  split
  · exact yes _ _ _
  · split
    · trivial
    · split
      · split
        · split
          · exact yes _ _ _
          · exact finish_every
        · split
          · split
            · exact yes _ _ _
            · exact finish_every
          · split
            · exact ⟨yes _ _ _, finish_every⟩
            · exact ⟨finish_every, yes _ _ _⟩
      · exact finish_every
      · trivial
theorem evOps_every {wf : List FuncId} {call : CallF} {N : Nat} {ops : Array Oper} : ∀ {l : List Oper} {σ : St} {kn : Kn} {acc : List Tr}, (evOps tb wf call N ops l σ kn acc).Every fun x => Ext σ x.1
  | [], σ, _, _ => Ext.refl σ
  | _ :: _, _, _, _ => Tree.Every.bind (evOp_every.mono fun _ hx => evOps_every.mono fun _ hy => hx.trans hy)
theorem evReg_every {wf : List FuncId} {call : CallF} {N : Nat} {ops : Array Oper} {draw : Bool} {σ : St} : (evReg tb wf call N ops draw σ).Every fun x => Ext σ x := by
  refine Tree.Every.bind (evOps_every.mono fun x hx => ?_)
  split
  · exact hx
  · split
    · exact hx
    · trivial

def peel : Tree Leaf → Option (List Bool × Leaf)
  | .leaf x => some ([], x)
  | .must b t => (peel t).map fun p => (b :: p.1, p.2)
  | _ => none
def musts {α : Type} : List Bool → Tree α → Tree α
  | [], t => t
  | b :: l, t => .must b (musts l t)
theorem At_musts {α : Type} {x : α} {t : Tree α} : ∀ {l : List Bool}, (musts l t).At x ↔ (∀ b ∈ l, b = true) ∧ t.At x
  | [] => by simp [musts]
  | b :: l => by
    simp only [musts, Tree.At, At_musts (l := l), List.mem_cons, forall_eq_or_imp]
    exact ⟨fun ⟨a, b, c⟩ => ⟨⟨a, b⟩, c⟩, fun ⟨⟨a, b⟩, c⟩ => ⟨a, b, c⟩⟩
theorem peel_at {l : List Bool} {x : Leaf} : ∀ {t : Tree Leaf}, peel t = some (l, x) → (∀ b ∈ l, b = true) → t.At x
  | .leaf y, h, _ => by
    obtain ⟨_, rfl⟩ := Prod.mk.inj (Option.some.inj h)
    rfl
  | .must b t, h, hl => by
    obtain ⟨p, hp, he⟩ := Option.map_eq_some_iff.1 h
    obtain ⟨rfl, rfl⟩ := Prod.mk.inj he
    exact ⟨hl b List.mem_cons_self, peel_at hp fun c hc => hl c (List.mem_cons_of_mem _ hc)⟩
  | .br _ _ _, h, _ => by cases h
  | .fail, h, _ => by cases h
theorem peel_every {p : Leaf → Prop} {l : List Bool} {x : Leaf} : ∀ {t : Tree Leaf}, peel t = some (l, x) → t.Every p → p x
  | .leaf y, h, k => by
    obtain ⟨_, rfl⟩ := Prod.mk.inj (Option.some.inj h)
    exact k
  | .must b t, h, k => by
    obtain ⟨q, hq, he⟩ := Option.map_eq_some_iff.1 h
    obtain ⟨_, rfl⟩ := Prod.mk.inj he
    exact peel_every (t := t) hq k
  | .br _ _ _, h, _ => by cases h
  | .fail, h, _ => by cases h
theorem every_musts {α : Type} {p : α → Prop} {t : Tree α} : ∀ {l : List Bool}, t.Every p → (musts l t).Every p
  | [], h => h
  | _ :: l, h => every_musts (l := l) h
def outEq : Out → Out → Bool
  | .normal, .normal => true
  | .ret, .ret => true
  | .exit i, .exit j => Nat.beq i j
  | _, _ => false
theorem outEq_eq {a b : Out} (h : outEq a b = true) : a = b := by
  cases a <;> cases b <;> simp only [outEq] at h <;> first
    | rfl
    | cases h; done
    | (rw [beq_iff'.1 h])
def join2 (lo : Bool) (σ : St) (b : Bool) (t f : Tree Leaf) : Tree Leaf := match peel t, peel f with
  | some (mt, (o1, x)), some (mf, (o2, y)) => match outEq o1 o2 with
    | true => match merge lo σ b x y with
      | some m => musts (mt.map fun q => !b || q) (musts (mf.map fun q => b || q) (.leaf (o1, m)))
      | none => .br b t f
    | false => .br b t f
  | _, _ => .br b t f
def joinT (lo : Bool) (σ : St) : Tree Leaf → Tree Leaf
  | .leaf x => .leaf x
  | .must b t => .must b (joinT lo σ t)
  | .br b t f => join2 lo σ b (joinT lo σ t) (joinT lo σ f)
  | .fail => .fail

theorem merge_ext {σ m x y : St} {b : Bool} (h : merge0 σ b x y = some m) : Ext σ m := by
  rw [merge_eq] at h
  split at h
  · split at h
    · exact Ext.apps h
    · cases h
  · cases h
theorem join2_every {lo : Bool} {σ : St} {b : Bool} {t f : Tree Leaf} (ht : t.Every fun x => Ext σ x.2) (hf : f.Every fun x => Ext σ x.2) : (join2 lo σ b t f).Every fun x => Ext σ x.2 := by
  unfold join2
  split
  · split
    · split
      · rename_i hm; exact every_musts (every_musts (merge_ext (merge_some hm)))
      · exact ⟨ht, hf⟩
    · exact ⟨ht, hf⟩
  · exact ⟨ht, hf⟩
theorem joinT_every {lo : Bool} {σ : St} : ∀ {T : Tree Leaf}, (T.Every fun x => Ext σ x.2) → (joinT lo σ T).Every fun x => Ext σ x.2
  | .leaf _, h => h
  | .must _ t, h => joinT_every (T := t) h
  | .br _ _ _, h => join2_every (joinT_every h.1) (joinT_every h.2)
  | .fail, _ => trivial
/-- Whatever is as x says is as y says. -/
def RelTo (σ x y : St) : Prop := ∀ (C : Ctx) (N : Nat) (e : Env) (a : Act) (w : World), ((∀ id p, C.pin id = some p → kn (look σ) id) ∧ ∀ c m, C.pinn c = some m → knn (look σ) c) → Rel C N e (look x) a w → Rel C N e (look y) a w
theorem RelTo.refl (σ x : St) : RelTo σ x x := fun _ _ _ _ _ _ h => h
theorem RelTo.trans {σ x y z : St} (h : RelTo σ x y) (k : RelTo σ y z) : RelTo σ x z := fun C N e a w hp hr => k C N e a w hp (h C N e a w hp hr)
/-- A leaf of the joined ways, and the way that it stands for. -/
def Stands (σ : St) (T : Tree Leaf) (y : Leaf) : Prop := ∃ x, T.At x ∧ x.1 = y.1 ∧ (WS (look σ) → RelTo σ x.2 y.2)
theorem join2_ok {lo : Bool} {σ : St} {b : Bool} {t f : Tree Leaf} (ht : t.Every fun x => Ext σ x.2) (hf : f.Every fun x => Ext σ x.2) {y : Leaf} (h : (join2 lo σ b t f).At y) : Stands σ (.br b t f) y := by
  have self : (Tree.br b t f).At y → Stands σ (.br b t f) y := fun hy => ⟨y, hy, rfl, fun _ => RelTo.refl _ _⟩
  unfold join2 at h
  split at h
  · rename_i mt o1 x mf o2 z hpt hpf
    split at h
    · rename_i ho
      split at h
      · rename_i m hm
        rw [At_musts, At_musts] at h
        obtain ⟨h1, h2, h3⟩ := h
        obtain rfl : (o1, m) = y := h3
        have hoe := outEq_eq ho
        have ex : Ext σ x := peel_every hpt ht
        have ez : Ext σ z := peel_every hpf hf
        have key : ∀ {X : Leaf}, X = (if b = true then (o1, x) else (o2, z)) → (Tree.br b t f).At X → Stands σ (.br b t f) (o1, m) := by
          intro X hX hAt
          refine ⟨X, hAt, ?_, ?_⟩
          · rw [hX]; cases b
            · exact hoe.symm
            · rfl
          · intro hws C N e a w hp hr
            obtain ⟨k1, _, k3⟩ := merge_wk hws ex ez (merge_some hm) (if b = true then x else z) rfl
            have hx2 : X.2 = if b = true then x else z := by rw [hX]; cases b <;> rfl
            rw [hx2] at hr
            exact hr.wk k1 ⟨fun id p hh => k3.1 id (hp.1 id p hh), fun c q hh => k3.2 c (hp.2 c q hh)⟩
        by_cases hb : b = true
        · refine key (X := (o1, x)) (by rw [if_pos hb]) (Or.inl ⟨hb, peel_at hpt fun q hq => ?_⟩)
          have := h1 _ (List.mem_map.2 ⟨q, hq, rfl⟩)
          rw [hb] at this; simpa using this
        · have hb' : b = false := by simpa using hb
          refine key (X := (o2, z)) (by rw [if_neg hb]) (Or.inr ⟨hb', peel_at hpf fun q hq => ?_⟩)
          have := h2 _ (List.mem_map.2 ⟨q, hq, rfl⟩)
          rw [hb'] at this; simpa using this
      · exact self h
    · exact self h
  · exact self h
theorem joinT_ok {lo : Bool} {σ : St} : ∀ {T : Tree Leaf} {y : Leaf}, (T.Every fun x => Ext σ x.2) → (joinT lo σ T).At y → Stands σ T y
  | .leaf x, y, _, h => ⟨y, h, rfl, fun _ => RelTo.refl _ _⟩
  | .must b t, y, he, h => by
    obtain ⟨x, h1, h2, h3⟩ := joinT_ok (T := t) he h.2
    exact ⟨x, ⟨h.1, h1⟩, h2, h3⟩
  | .br b t f, y, he, h => by
    obtain ⟨x, h1, h2, h3⟩ := join2_ok (joinT_every he.1) (joinT_every he.2) h
    rcases h1 with ⟨hb, h1⟩ | ⟨hb, h1⟩
    · obtain ⟨z, k1, k2, k3⟩ := joinT_ok he.1 h1
      exact ⟨z, Or.inl ⟨hb, k1⟩, k2.trans h2, fun hw => (k3 hw).trans (h3 hw)⟩
    · obtain ⟨z, k1, k2, k3⟩ := joinT_ok he.2 h1
      exact ⟨z, Or.inr ⟨hb, k1⟩, k2.trans h2, fun hw => (k3 hw).trans (h3 hw)⟩
  | .fail, _, _, h => h.elim
/-- What holds of the way holds of the leaf that stands for it. -/
theorem CodeOk.stands {N : Nat} {σ : St} {c : Code} {T : Tree Leaf} {y : Leaf} (h : ∀ x, T.At x → CodeOk P N σ c x) (hs : Stands σ T y) : CodeOk P N σ c y := by
  obtain ⟨x, h1, h2, h3⟩ := hs
  intro C e a w Q hR hQ
  refine h x h1 C e a w Q hR fun e' a' w' hR' => ?_
  rw [h2]
  exact hQ e' a' w' (h3 hR.ws C N e' a' w' ⟨fun id p hp => (hR.hp.pin.1 id p hp).2, fun c m hm => (hR.hp.pin.2 c m hm).2⟩ hR')

def evL (f : St → Tree Leaf) : Nat → St → Tree Leaf
  | 0, _ => .fail
  | m + 1, σ => (f σ).bind fun x => match x.1 with
    | .normal => evL f m x.2
    | .stop _ => .fail
    | _ => .leaf x
def blkOut (id : Nat) (x : Leaf) : Leaf := match x.1 with
  | .exit i => match Nat.beq i id with
    | true => (.normal, x.2)
    | false => x
  | .stop k => (.stop (k ++ [.blk id]), x.2)
  | _ => x
def evC (tb : Tb) (wf : List FuncId) (call : CallF) (N : Nat) (stops : List Nat) : Nat → Code → St → Tree Leaf
  | 0, _, _ => .fail
  | n + 1, c, σ => match c with
    | .skip => .leaf (.normal, σ)
    | .label _ => .leaf (.normal, σ)
    | .region _ ops draw => joinT false σ ((evReg tb wf call N ops draw σ).bind fun σ' => .leaf (.normal, σ'))
    | .seq a b => (evC tb wf call N stops n a σ).bind fun x => match x.1 with
      | .normal => evC tb wf call N stops n b x.2
      | .stop k => .leaf (.stop (k ++ [.code b]), x.2)
      | _ => .leaf x
    | .cond c a b => match evO σ c with
      | some (.one (.b v true)) => match v with
        | true => evC tb wf call N stops n a σ
        | false => evC tb wf call N stops n b σ
      | some (.one (.b v false)) => join2 false σ v (evC tb wf call N stops n a σ) (evC tb wf call N stops n b σ)
      | _ => .fail
    | .block id body => match memb stops id with
      | true => .leaf (.stop [.code (.block id body)], σ)
      | false => joinT (memb σ.vr 99999) σ ((evC tb wf call N stops n body σ).bind fun x => .leaf (blkOut id x))
    | .loop body => evL (evC tb wf call N stops n body) n σ
    | .exit id => .leaf (.exit id, σ)
    | .ret => .leaf (.ret, σ)
    | _ => .fail
theorem blkOut_2 (id : Nat) (x : Leaf) : (blkOut id x).2 = x.2 := by
  unfold blkOut
  split
  · split <;> rfl
  · rfl
  · rfl
theorem evL_every {f : St → Tree Leaf} (hf : ∀ σ, (f σ).Every fun x => Ext σ x.2) : ∀ {n : Nat} {σ : St}, (evL f n σ).Every fun x => Ext σ x.2
  | 0, _ => trivial
  | n + 1, σ => by
    refine Tree.Every.bind ((hf σ).mono fun x hx => ?_)
    split
    · exact (evL_every hf (n := n)).mono fun y hy => hx.trans hy
    · trivial
    · exact hx
theorem evC_every {wf : List FuncId} {call : CallF} {N : Nat} {stops : List Nat} : ∀ {n : Nat} {c : Code} {σ : St}, (evC tb wf call N stops n c σ).Every fun x => Ext σ x.2
  | 0, _, _ => trivial
  | n + 1, c, σ => by
    have ih : ∀ {c : Code} {σ : St}, (evC tb wf call N stops n c σ).Every fun x => Ext σ x.2 := evC_every (n := n)
    cases c with
    | skip => exact Ext.refl σ
    | label l => exact Ext.refl σ
    | region id ops draw => exact joinT_every (Tree.Every.bind (evReg_every.mono fun _ h => h))
    | seq a b =>
      refine Tree.Every.bind (ih.mono fun x hx => ?_)
      split
      · exact ih.mono fun y hy => hx.trans hy
      · exact hx
      · exact hx
    | cond c a b =>
      simp only [evC]
      split
      · split
        · exact ih
        · exact ih
      · exact join2_every ih ih
      · trivial
    | block id body =>
      simp only [evC]
      split
      · exact Ext.refl σ
      · refine joinT_every (Tree.Every.bind (ih.mono fun x hx => ?_))
        show Ext σ (blkOut id x).2
        rw [blkOut_2]; exact hx
    | loop body => exact evL_every fun _ => ih
    | exit id => exact Ext.refl σ
    | ret => exact Ext.refl σ
    | _ => trivial
theorem evL_ok {N : Nat} {f : St → Tree Leaf} {body : Code} (hf : ∀ σ x, (f σ).At x → CodeOk P N σ body x) : ∀ (n : Nat) (σ : St) (y : Leaf), (evL f n σ).At y →
    ∀ (C : Ctx) (e : Env) (a : Act) (w : World) (Q : Exit → Act → World → Prop), Rel C N e (look σ) a w → (∀ e' a' w', Rel C N e' (look y.2) a' w' → Post P Q y.1 a' w') → Code.rounds P body Q n a w
  | 0, σ, y, h => h.elim
  | n + 1, σ, y, h => by
    intro C e a w Q hR hQ
    rw [rounds_succ]
    obtain ⟨x, h1, h2⟩ := Tree.At_bind.1 h
    refine hf σ x h1 C e a w _ hR fun e' a' w' hR' => ?_
    split at h2
    · rename_i hx
      rw [hx]
      exact evL_ok hf n x.2 y h2 C e' a' w' Q hR' hQ
    · exact h2.elim
    · rename_i hn hs
      obtain rfl : x = y := h2
      have := hQ e' a' w' hR'
      cases hx : x.1 with
      | normal => exact absurd hx hn
      | stop k => exact absurd hx (hs k)
      | exit i => rw [hx] at this; exact this
      | ret => rw [hx] at this; exact this
theorem evC_ok {wf : List FuncId} {call : CallF} {N : Nat} {stops : List Nat} (hT : TbOk P tb) (hm : P.follows .mixedOrders = true) (hc : CallFOk P call) : ∀ (n : Nat) (c : Code) (σ : St) (y : Leaf), (evC tb wf call N stops n c σ).At y → CodeOk P N σ c y
  | 0, _, _, _, h => h.elim
  | n + 1, c, σ, y, h => by
    have ih := evC_ok (wf := wf) (N := N) (stops := stops) hT hm hc n
    cases c with
    | skip => obtain rfl : _ = y := h; exact fun C e a w Q hR hQ => wp_skip (hQ e a w hR)
    | label l => obtain rfl : _ = y := h; exact fun C e a w Q hR hQ => wp_label (hQ e a w hR)
    | region id ops draw =>
      refine CodeOk.stands (fun x hx => ?_) (joinT_ok (Tree.Every.bind (evReg_every.mono fun _ h => h)) h)
      obtain ⟨σ', h1, h2⟩ := Tree.At_bind.1 hx
      obtain rfl : _ = x := h2
      obtain ⟨_, k⟩ := evReg_ok (id := id) hT hm hc h1
      exact fun C e a w Q hR hQ => k C e a w Q hR hQ
    | seq a b =>
      obtain ⟨x, h1, h2⟩ := Tree.At_bind.1 h
      intro C e a' w Q hR hQ
      refine wp_seq (ih a σ x h1 C e a' w _ hR fun e' a' w' hR' => ?_)
      split at h2
      · rename_i hx
        rw [hx]
        exact ih b x.2 y h2 C e' a' w' Q hR' hQ
      · rename_i k hx
        obtain rfl : _ = y := h2
        rw [hx]
        have := hQ e' a' w' hR'
        simp only [Post] at this ⊢
        rw [stackPost_append] at this
        exact this
      · rename_i hn hs
        obtain rfl : x = y := h2
        have := hQ e' a' w' hR'
        cases hx : x.1 with
        | normal => exact absurd hx hn
        | stop k => exact absurd hx (hs k)
        | exit i => rw [hx] at this; exact this
        | ret => rw [hx] at this; exact this
    | cond c a b =>
      simp only [evC] at h
      have hev : ∀ {v l : Bool}, evO σ c = some (.one (.b v l)) → ∀ (C : Ctx) (e : Env) (a : Act) (w : World), Rel C N e (look σ) a w → a.eval c = .bool v := fun hv C e a w hR => (sees_of hR (x := c) (fun _ _ => rfl) _ hv).1
      split at h
      · rename_i v hv
        split at h
        · exact fun C e a' w Q hR hQ => wp_cond (hev hv C e a' w hR) (ih a σ y h C e a' w Q hR hQ)
        · exact fun C e a' w Q hR hQ => wp_cond (hev hv C e a' w hR) (ih b σ y h C e a' w Q hR hQ)
      · rename_i v hv
        refine CodeOk.stands (T := .br v (evC tb wf call N stops n a σ) (evC tb wf call N stops n b σ)) (fun x hx => ?_) (join2_ok evC_every evC_every h)
        rcases hx with ⟨hb, hx⟩ | ⟨hb, hx⟩
        · intro C e a' w Q hR hQ
          refine wp_cond (hev hv C e a' w hR) ?_
          rw [hb]
          exact ih a σ x hx C e a' w Q hR hQ
        · intro C e a' w Q hR hQ
          refine wp_cond (hev hv C e a' w hR) ?_
          rw [hb]
          exact ih b σ x hx C e a' w Q hR hQ
      · exact h.elim
    | block id body =>
      simp only [evC] at h
      split at h
      · obtain rfl : _ = y := h
        exact fun C e a w Q hR hQ => hQ e a w hR
      · refine CodeOk.stands (fun x hx => ?_) (joinT_ok (Tree.Every.bind (evC_every.mono fun x hx => by show Ext σ (blkOut id x).2; rw [blkOut_2]; exact hx)) h)
        obtain ⟨z, h1, h2⟩ := Tree.At_bind.1 hx
        obtain rfl : _ = x := h2
        intro C e a w Q hR hQ
        refine wp_block (ih body σ z h1 C e a w _ hR fun e' a' w' hR' => ?_)
        have := hQ e' a' w' (by rw [blkOut_2]; exact hR')
        unfold blkOut at this
        cases hz : z.1 with
        | normal => rw [hz] at this; simp only [] at this; rw [hz] at this; exact this
        | ret => rw [hz] at this; simp only [] at this; rw [hz] at this; exact this
        | exit i =>
          rw [hz] at this
          simp only [] at this
          show (if i = id then Q .normal a' w' else Q (.exit i) a' w')
          split at this
          · rename_i hb; rw [if_pos (beq_iff'.1 hb)]; exact this
          · rename_i hb; rw [if_neg (beq_ff.1 hb)]; rw [hz] at this; exact this
        | stop k =>
          rw [hz] at this
          simp only [Post] at this ⊢
          rw [stackPost_append] at this
          exact this
    | loop body =>
      intro C e a w Q hR hQ
      exact wp_loop_rounds n (evL_ok (fun σ x hx => ih body σ x hx) n σ y h C e a w Q hR hQ)
    | exit id => obtain rfl : _ = y := h; exact fun C e a w Q hR hQ => wp_exit (hQ e a w hR)
    | ret => obtain rfl : _ = y := h; exact fun C e a w Q hR hQ => wp_ret (hQ e a w hR)
    | _ => exact h.elim
end
end Sx
end Go.Proofs.YtpdhkgfdmpofiaaGreatDoor
