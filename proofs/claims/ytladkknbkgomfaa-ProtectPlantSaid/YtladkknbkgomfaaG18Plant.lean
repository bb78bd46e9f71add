/-
  Loops: from the head of a loop to what stands behind it.
-/
import Derived.Test.YtladkknbkgomfaaG17Plant
import Derived.DataReads
import Derived.Deep.Slices
import Derived.Test.YtladkknbkgomfaaG16Plant
import Derived.Test.YtladkknbkgomfaaG2Plant
set_option linter.unusedSimpArgs false
set_option linter.unusedVariables false
namespace Go.Proofs.Ytladkknbkgomfaa
namespace Sx
open Go.RowKit

section
variable {P : Program} {tb : Tb}
def isFgt : Wr → Bool
  | .ft _ => true
  | .new _ .gone => true
  | _ => false
theorem Rel.ft {C : Ctx} {N : Nat} {e : Env} {s : Sto} {a : Act} {w : World} (h : Rel C N e s a w) (n : Nat) : Rel C N e ((Wr.ft n).upd s) a w := by
  have hs : ∀ l, (∀ t, l ≠ .t t) → (Wr.ft n).upd s l = s l := fun l hl => by
    cases l with
    | t m => exact absurd rfl (hl m)
    | _ => rfl
  have hS : Sub s ((Wr.ft n).upd s) := ⟨fun _ h => h, fun _ h => h⟩
  refine ⟨h.sz, h.df, fun t v ht => ?_, h.hp.congr hs⟩
  by_cases e1 : t = n
  · subst e1; simp [Wr.upd, Wr.fn] at ht
  · simp only [Wr.upd, Wr.fn, if_neg e1, Option.getD_none] at ht
    obtain ⟨h1, h2, h3⟩ := h.tm t v ht
    exact ⟨h1, h2, h3.sub hS⟩
theorem fgt_rel {C : Ctx} {N : Nat} {e : Env} {a : Act} {w : World} : ∀ {fw : List Wr} {σ0 σ : St}, fw.all isFgt = true → σ0.apps fw = some σ → Rel C N e (look σ0) a w → Rel C N e (look σ) a w
  | [], σ0, σ, _, h, hR => by obtain rfl := Option.some.inj h; exact hR
  | x :: fw, σ0, σ, hf, h, hR => by
    simp only [List.all_cons, Bool.and_eq_true] at hf
    simp only [St.apps] at h
    split at h
    · rename_i hw
      refine fgt_rel hf.2 h ?_
      rw [look_app hw]
      cases x with
      | ft n => exact hR.ft n
      | new id b =>
        cases b with
        | gone => exact hR.agree (fun t => rfl) Sub.new (Agree.refl _ _) (hR.hp.gone id)
        | _ => cases hf.1
      | _ => cases hf.1
    · cases h
theorem fgt_keep : ∀ {fw : List Wr} {σ0 σ : St}, fw.all isFgt = true → σ0.apps fw = some σ → ∀ l v, look σ l = some v → v ≠ .bk .gone → look σ0 l = some v
  | [], σ0, σ, _, h, l, v, hv, _ => by obtain rfl := Option.some.inj h; exact hv
  | x :: fw, σ0, σ, hf, h, l, v, hv, hg => by
    simp only [List.all_cons, Bool.and_eq_true] at hf
    simp only [St.apps] at h
    split at h
    · rename_i hw
      have h1 := fgt_keep hf.2 h l v hv hg
      rw [look_app hw] at h1
      cases x with
      | ft n =>
        simp only [Wr.upd, Wr.fn] at h1
        cases l with
        | t m =>
          simp only [Wr.fn] at h1
          split at h1
          · cases h1
          · exact h1
        | _ => exact h1
      | new id b =>
        cases b with
        | gone =>
          cases l with
          | k i =>
            rw [gone_k] at h1
            split at h1
            · exact absurd (Option.some.inj h1).symm hg
            · exact h1
          | c i o =>
            rw [gone_c] at h1
            split at h1
            · cases h1
            · exact h1
          | _ => exact h1
        | _ => cases hf.1
      | _ => cases hf.1
    · cases h
def domT (d : List FamP) (n : Nat) : Bool := d.any fun p => match p with
  | .t m _ => Nat.beq m n
  | .row m _ _ _ _ => Nat.beq m n
  | _ => false
def domC (d : List FamP) (id off : Nat) : Bool := d.any fun p => match p with
  | .c i o _ => Nat.beq i id && Nat.beq o off
  | _ => false
def sameCv : Cv → Cv → Bool
  | .ptr i (.lit o), .ptr i' (.lit o') => Nat.beq i i' && Nat.beq o o'
  | _, _ => false
theorem sameCv_eq {c v : Cv} (h : sameCv c v = true) : v = c := by
  unfold sameCv at h
  split at h
  · simp only [Bool.and_eq_true] at h
    obtain rfl := beq_iff'.1 h.1
    obtain rfl := beq_iff'.1 h.2
    rfl
  · cases h
def sameAt (σ : St) (id off : Nat) (v : Cv) : Bool := match (alook σ.bk id).bind fun b => b.cell off with
  | some c => sameCv c v
  | none => false
theorem fns_mem {l : Loc} {z : Option LV} : ∀ {ws : List Wr}, fns ws l = some z → ∃ x ∈ ws, x.fn l = some z
  | [], h => by cases h
  | x :: ws, h => by
    simp only [fns] at h
    split at h
    · rename_i y hy
      obtain rfl := Option.some.inj h
      obtain ⟨x', h1, h2⟩ := fns_mem hy
      exact ⟨x', List.mem_cons_of_mem _ h1, h2⟩
    · exact ⟨x, List.mem_cons_self, h⟩
/-- A write that keeps what else is known. -/
def okWf (d : List FamP) (σ : St) : Wr → Bool
  | .tm n _ => domT d n || (alook σ.tm n).isNone
  | .ft n => domT d n || (alook σ.tm n).isNone
  | .cell id off v => (domC d id off || (alook σ.bk id).isNone) || sameAt σ id off v
  | .new id _ => (alook σ.bk id).isNone
  | .nm c => !memb σ.nl c
theorem domT_in {d : List FamP} {n : Nat} (h : domT d n = true) : inF d (.t n) := by
  obtain ⟨p, hp, h2⟩ := List.any_eq_true.1 h
  cases p with
  | t m l => obtain rfl := beq_iff'.1 h2; exact ⟨_, hp, ⟨fun _ => false, fun _ => 0, fun _ => 0, fun _ => 0, fun _ _ => undef⟩, 0, by simp [FamP.at_]⟩
  | c i o l => cases h2
  | row m _ _ _ _ => obtain rfl := beq_iff'.1 h2; exact ⟨_, hp, ⟨fun _ => false, fun _ => 0, fun _ => 0, fun _ => 0, fun _ _ => undef⟩, 0, by simp [FamP.at_]⟩
theorem domC_in {d : List FamP} {id off : Nat} (h : domC d id off = true) : inF d (.c id off) := by
  obtain ⟨p, hp, h2⟩ := List.any_eq_true.1 h
  cases p with
  | t m l => cases h2
  | c i o l =>
    simp only [Bool.and_eq_true] at h2
    obtain rfl := beq_iff'.1 h2.1
    obtain rfl := beq_iff'.1 h2.2
    exact ⟨_, hp, ⟨fun _ => false, fun _ => 0, fun _ => 0, fun _ => 0, fun _ _ => undef⟩, 0, by simp [FamP.at_]⟩
  | row m _ _ _ _ => cases h2
theorem keep_round {d : List FamP} {σ I y : St} {v : FVal} (hI : σ.apps (famW v 0 d) = some I) (hx : Ext I y) (ok : (newL I y).all (okWf d σ) = true) : KeepsF d σ y := by
  intro l z hz hd _
  obtain ⟨ws, hw, hl⟩ := newL_ext hx
  rw [look_apps hw, upds_fns]
  have hno : fns ws l = none ∨ fns ws l = some (some z) := by
    cases hf : fns ws l with
    | none => exact Or.inl rfl
    | some q =>
      obtain ⟨x, hx1, hx2⟩ := fns_mem hf
      have hok := List.all_eq_true.1 ok x (by rw [hl]; exact List.mem_reverse.2 hx1)
      have nT : ∀ {m}, l = .t m → domT d m = false := fun {m} e => by
        cases hc : domT d m with
        | false => rfl
        | true => exact absurd (e ▸ domT_in hc) hd
      have nC : ∀ {i o}, l = .c i o → domC d i o = false := fun {i o} e => by
        cases hc : domC d i o with
        | false => rfl
        | true => exact absurd (e ▸ domC_in hc) hd
      cases x with
      | tm n v' =>
        cases l with
        | t m =>
          obtain rfl : m = n := by simp only [Wr.fn] at hx2; split at hx2; assumption; cases hx2
          simp only [okWf, nT rfl, Bool.false_or, Option.isNone_iff_eq_none] at hok
          simp only [look, hok] at hz; cases hz
        | _ => cases hx2
      | ft n =>
        cases l with
        | t m =>
          obtain rfl : m = n := by simp only [Wr.fn] at hx2; split at hx2; assumption; cases hx2
          simp only [okWf, nT rfl, Bool.false_or, Option.isNone_iff_eq_none] at hok
          simp only [look, hok] at hz; cases hz
        | _ => cases hx2
      | cell id off v' =>
        cases l with
        | c i o =>
          obtain ⟨rfl, rfl⟩ : i = id ∧ o = off := by simp only [Wr.fn] at hx2; split at hx2; assumption; cases hx2
          simp only [okWf, nC rfl, Bool.false_or, Bool.or_eq_true, Option.isNone_iff_eq_none] at hok
          rcases hok with hok | hok
          · simp only [look, hok] at hz; cases hz
          · right
            unfold sameAt at hok
            simp only [look] at hz
            cases hb : alook σ.bk i with
            | none => rw [hb] at hz; cases hz
            | some b =>
              rw [hb] at hok hz
              simp only [Option.bind_some] at hok hz
              cases hcc : b.cell o with
              | none => rw [hcc] at hz; cases hz
              | some c =>
                rw [hcc] at hok hz
                obtain rfl := sameCv_eq hok
                simp only [Wr.fn, and_self, if_true] at hx2
                rw [← hx2, ← hz]; rfl
        | _ => cases hx2
      | new id b =>
        simp only [okWf, Option.isNone_iff_eq_none] at hok
        cases l with
        | k i =>
          obtain rfl : i = id := by simp only [Wr.fn] at hx2; split at hx2; assumption; cases hx2
          simp only [look, hok] at hz; cases hz
        | c i o =>
          obtain rfl : i = id := by simp only [Wr.fn] at hx2; split at hx2; assumption; cases hx2
          simp only [look, hok] at hz; cases hz
        | _ => cases hx2
      | nm c =>
        cases l with
        | n d' =>
          obtain rfl : d' = c := by simp only [Wr.fn] at hx2; split at hx2; assumption; cases hx2
          simp only [okWf, Bool.not_eq_true'] at hok
          simp only [look, hok] at hz; cases hz
        | _ => cases hx2
  dsimp only
  rcases hno with hno | hno
  · rw [hno, Option.getD_none, look_apps hI, fam_out hd, hz]
  · rw [hno]; rfl

/-- From the stack k and the state σ to one end. -/
structure SegOk (P : Program) (N : Nat) (σ : St) (k : List Kt) (o : Out) (x : SLeaf) : Prop where
  run : ∀ (C : Ctx) (e : Env) (a : Act) (w : World) (Q : Exit → Act → World → Prop), Rel C N e (look σ) a w → (∀ e' a' w', Rel C N e' (look x.2) a' w' → FPost P Q x.1 a' w') → Post P (fun o => kPost P Q k o) o a w
/-- From the stack k and the state σ to one of several ends. -/
structure SegTo (P : Program) (N : Nat) (σ : St) (k : List Kt) (o : Out) (Ψ : SLeaf → Prop) : Prop where
  run : ∀ (C : Ctx) (e : Env) (a : Act) (w : World) (Q : Exit → Act → World → Prop), Rel C N e (look σ) a w → (∀ y, Ψ y → ∀ e' a' w', Rel C N e' (look y.2) a' w' → FPost P Q y.1 a' w') → Post P (fun o => kPost P Q k o) o a w
theorem SegOk.to {N : Nat} {σ : St} {k : List Kt} {o : Out} {x : SLeaf} {Ψ : SLeaf → Prop} (h : SegOk P N σ k o x) (hx : Ψ x) : SegTo P N σ k o Ψ := ⟨fun C e a w Q hR hQ => h.run C e a w Q hR (hQ x hx)⟩
theorem SegOk.then_ {N : Nat} {σ σ' : St} {k k' : List Kt} {o : Out} {x : SLeaf} {Φ : SLeaf → Prop} (h : SegOk P N σ k o x) (hx : x = (.wait k', σ')) (h2 : SegTo P N σ' k' .normal Φ) : SegTo P N σ k o Φ := by
  subst hx
  exact ⟨fun C e a w Q hR hQ => h.run C e a w Q hR fun e' a' w' hR' => h2.run C e' a' w' Q hR' hQ⟩
theorem SegTo.each {N : Nat} {σ : St} {k rest : List Kt} {o : Out} {I : FVal → St} {F : FVal → Prop} {Φ : SLeaf → Prop} (h : SegTo P N σ k o fun y => ∃ v, F v ∧ y = (.wait rest, I v)) (h2 : ∀ v, F v → SegTo P N (I v) rest .normal Φ) : SegTo P N σ k o Φ :=
  ⟨fun C e a w Q hR hQ => h.run C e a w Q hR fun y hy e' a' w' hR' => by
    obtain ⟨v, hv, rfl⟩ := hy
    exact (h2 v hv).run C e' a' w' Q hR' hQ⟩
/-- THE LOOP. -/
theorem loop_to {N k : Nat} {body : Code} {rest : List Kt} (d : List FamP) {σ0 σ : St} {fw : List Wr} (hf : fw.all isFgt = true) (hσ : σ0.apps fw = some σ) (I : FVal → St) (hI : ∀ v, σ.apps (famW v 0 d) = some (I v)) (ok0 : okF d σ σ0 = true)
    (inv F : FVal → Prop) (μ : FVal → Nat) (h0 : inv (rvV d σ0))
    (hstep : ∀ v, inv v → ∃ o y, SegOk P N (I v) [.code body] .normal (.out o, y) ∧ Ext (I v) y ∧ okF d σ y = true ∧ (newL (I v) y).all (okWf d σ) = true ∧ ((o = .normal ∧ inv (rvV d y) ∧ μ (rvV d y) < μ v) ∨ (o = .exit k ∧ F (rvV d y)))) :
    SegTo P N σ0 (.again body :: .blk k :: rest) .normal (fun y => ∃ v, F v ∧ y = (.wait rest, I v)) := by
  refine ⟨fun C e a w Q hR hQ => ?_⟩
  have hRσ := fgt_rel hf hσ hR
  have hws := hRσ.ws
  have hpin : (∀ id p, C.pin id = some p → kn (look σ) id) ∧ ∀ c m, C.pinn c = some m → knn (look σ) c := ⟨fun id p h => (hRσ.hp.pin.1 id p h).2, fun c m h => (hRσ.hp.pin.2 c m h).2⟩
  have key : ∀ n v, inv v → μ v < n → ∀ e a w, Rel C N e (look (I v)) a w → LoopFrom P body (kPost P Q (.blk k :: rest)) a w := by
    intro n
    induction n with
    | zero => intro v _ h; omega
    | succ n ih =>
      intro v hi hμ e a w hR
      obtain ⟨o, y, h1, h2, h3, h4, h5⟩ := hstep v hi
      refine LoopFrom.once (h1.run C e a w (Exit.then (LoopFrom P body (kPost P Q (.blk k :: rest))) (kPost P Q (.blk k :: rest))) hR fun e' a' w' hR' => ?_)
      have hr := fam_rel hws (keep_round (hI v) h2 h4) h3 hpin hR'
      rcases h5 with ⟨rfl, k1, k2⟩ | ⟨rfl, k1⟩
      · exact ih _ k1 (by omega) _ _ _ (by rw [look_apps (hI _)]; exact hr)
      · show (if k = k then kPost P Q rest .normal a' w' else _)
        rw [if_pos rfl]
        exact hQ _ ⟨_, k1, rfl⟩ _ _ _ (by rw [look_apps (hI _)]; exact hr)
  have hr := fam_rel hws (fun l v hv _ hg => fgt_keep hf hσ l v hv hg) ok0 hpin hR
  exact key _ _ h0 (Nat.lt_succ_self _) _ _ _ (by rw [look_apps (hI _)]; exact hr)
/-- The loop, and what stands behind it. -/
theorem loop_then {N k : Nat} {body : Code} {rest : List Kt} {Φ : SLeaf → Prop} (d : List FamP) {σ : St} (I : FVal → St) (hI : ∀ v, σ.apps (famW v 0 d) = some (I v)) (ok0 : okF d σ σ = true)
    (inv F : FVal → Prop) (μ : FVal → Nat) (h0 : inv (rvV d σ))
    (hstep : ∀ v, inv v → ∃ o y, SegOk P N (I v) [.code body] .normal (.out o, y) ∧ Ext (I v) y ∧ okF d σ y = true ∧ (newL (I v) y).all (okWf d σ) = true ∧ ((o = .normal ∧ inv (rvV d y) ∧ μ (rvV d y) < μ v) ∨ (o = .exit k ∧ F (rvV d y))))
    (htail : ∀ v, F v → SegTo P N (I v) rest .normal Φ) : SegTo P N σ (.again body :: .blk k :: rest) .normal Φ :=
  (loop_to d (fw := []) rfl rfl I hI ok0 inv F μ h0 hstep).each htail
theorem seg_block {N k : Nat} {σ : St} {body : Code} {rest : List Kt} {Ψ : SLeaf → Prop} (h : SegTo P N σ (.again body :: .blk k :: rest) .normal Ψ) : SegTo P N σ (.code (.block k (.loop body)) :: rest) .normal Ψ :=
  ⟨fun C e a w Q hR hQ => wp_block (LoopFrom.wp (h.run C e a w Q hR hQ))⟩
theorem seg_peel {N : Nat} {σ σ1 : St} {body : Code} {K : List Kt} {Ψ : SLeaf → Prop} (h : SegOk P N σ [.code body] .normal (.out .normal, σ1)) (h2 : SegTo P N σ1 (.again body :: K) .normal Ψ) : SegTo P N σ (.again body :: K) .normal Ψ :=
  ⟨fun C e a w Q hR hQ => LoopFrom.once (h.run C e a w (Exit.then (LoopFrom P body (kPost P Q K)) (kPost P Q K)) hR fun e' a' w' hR' => h2.run C e' a' w' Q hR' hQ)⟩
theorem seg_out {N k : Nat} {σ σ1 : St} {body : Code} {rest : List Kt} (h : SegOk P N σ [.code body] .normal (.out (.exit k), σ1)) : SegOk P N σ (.again body :: .blk k :: rest) .normal (.wait rest, σ1) :=
  ⟨fun C e a w Q hR hQ => LoopFrom.once (h.run C e a w (Exit.then (LoopFrom P body (kPost P Q (.blk k :: rest))) (kPost P Q (.blk k :: rest))) hR fun e' a' w' hR' => by
    show (if k = k then kPost P Q rest .normal a' w' else _)
    rw [if_pos rfl]
    exact hQ e' a' w' hR')⟩
/-- A way, under cover: nothing looks into it by itself. -/
structure AtG {α : Type} (T : Tree α) (x : α) : Prop where
  out : T.At x
theorem seg_evC {wf : List FuncId} {call : CallF} (hT : TbOk P tb) (hm : P.follows .mixedOrders = true) (hc : CallFOk P call) {N fuel : Nat} {c : Code} {σ : St} {y : Leaf} {T : Tree Leaf} (hE : T = evC tb wf call N [] fuel c σ) (hA : AtG T y) : SegOk P N σ [.code c] .normal (.out y.1, y.2) ∧ Ext σ y.2 := by
  have h : (evC tb wf call N [] fuel c σ).At y := hE ▸ hA.out
  exact ⟨⟨fun C e a w Q hR hQ => evC_ok hT hm hc fuel c σ y h C e a w Q hR hQ⟩, evC_every.at_ h⟩
theorem seg_evS {wf : List FuncId} {call : CallF} (hT : TbOk P tb) (hm : P.follows .mixedOrders = true) (hc : CallFOk P call) {N cf fuel : Nat} {stops : List Nat} {k : List Kt} {o : Out} {σ : St} {y : SLeaf} {T : Tree SLeaf} (hE : T = evS tb wf call N cf stops fuel k o σ) (hA : AtG T y) : SegOk P N σ k o y ∧ Ext σ y.2 := by
  have h : (evS tb wf call N cf stops fuel k o σ).At y := hE ▸ hA.out
  exact ⟨⟨evS_ok hT hm hc fuel k o σ y h⟩, evS_every.at_ h⟩

/-! One way of a tree: the tests along it, and its end. -/
def selW {α : Type} : List Bool → Tree α → Option (List Bool × α)
  | p, .must b t => (selW p t).map fun r => (b :: r.1, r.2)
  | true :: p, .br b t _ => (selW p t).map fun r => (b :: r.1, r.2)
  | false :: p, .br b _ f => (selW p f).map fun r => ((!b) :: r.1, r.2)
  | [], .leaf x => some ([], x)
  | _, _ => none
theorem selW_at {α : Type} : ∀ {T : Tree α} {p : List Bool} {cs : List Bool} {x : α}, selW p T = some (cs, x) → (∀ c ∈ cs, c = true) → T.At x
  | .must b t, p, cs, x, h, hc => by
    have h' : (selW p t).map (fun r => (b :: r.1, r.2)) = some (cs, x) := by cases p with
      | nil => exact h
      | cons q p => cases q <;> exact h
    obtain ⟨r, hr, he⟩ := Option.map_eq_some_iff.1 h'
    obtain ⟨l, z⟩ := r
    obtain ⟨rfl, rfl⟩ := Prod.mk.inj he
    exact ⟨hc _ List.mem_cons_self, selW_at hr fun c h => hc c (List.mem_cons_of_mem _ h)⟩
  | .br b t f, p, cs, x, h, hc => by
    cases p with
    | nil => cases h
    | cons q p =>
      cases q with
      | true =>
        obtain ⟨r, hr, he⟩ := Option.map_eq_some_iff.1 (show (selW p t).map (fun r => (b :: r.1, r.2)) = some (cs, x) from h)
        obtain ⟨l, z⟩ := r
        obtain ⟨rfl, rfl⟩ := Prod.mk.inj he
        exact Or.inl ⟨hc _ List.mem_cons_self, selW_at hr fun c h => hc c (List.mem_cons_of_mem _ h)⟩
      | false =>
        obtain ⟨r, hr, he⟩ := Option.map_eq_some_iff.1 (show (selW p f).map (fun r => ((!b) :: r.1, r.2)) = some (cs, x) from h)
        obtain ⟨l, z⟩ := r
        obtain ⟨rfl, rfl⟩ := Prod.mk.inj he
        exact Or.inr ⟨by have := hc _ List.mem_cons_self; simpa using this, selW_at hr fun c h => hc c (List.mem_cons_of_mem _ h)⟩
  | .leaf y, p, cs, x, h, hc => by
    cases p with
    | nil => obtain ⟨_, rfl⟩ := Prod.mk.inj (Option.some.inj h); rfl
    | cons q p => cases q <;> cases h
  | .fail, p, cs, x, h, hc => by
    cases p with
    | nil => cases h
    | cons q p => cases q <;> cases h
theorem selW_G {α : Type} {T : Tree α} {p : List Bool} {cs : List Bool} {x : α} (h : selW p T = some (cs, x)) (hc : ∀ c ∈ cs, c = true) : AtG T x := ⟨selW_at h hc⟩
/-- A loop that is stopped at: its body, its number, what stands behind it. -/
structure Stp where
  body : Code
  k : Nat
  rest : List Kt
  st : St
def stpOf : SLeaf → Option Stp
  | (.wait (.code (.block k (.loop b)) :: rest), σ) => some ⟨b, k, rest, σ⟩
  | _ => none
theorem stpOf_at {x : SLeaf} {s : Stp} (h : stpOf x = some s) : x = (.wait (.code (.block s.k (.loop s.body)) :: s.rest), s.st) := by
  unfold stpOf at h
  split at h
  · obtain rfl := Option.some.inj h; rfl
  · cases h
/-- A way of a round that goes on, or out. -/
def wayR (d : List FamP) (σ I : St) (o : Out) (T : Tree Leaf) (p : List Bool) : Option (List Bool × St) := match selW p T with
  | some (cs, (o', y)) => match outEq o o' && (okF d σ y && (newL I y).all (okWf d σ)) with
    | true => some (cs, y)
    | false => none
  | none => none
theorem wayR_at {d : List FamP} {σ I y : St} {o : Out} {T : Tree Leaf} {p cs : List Bool} (h : wayR d σ I o T p = some (cs, y)) : ((∀ c ∈ cs, c = true) → AtG T (o, y)) ∧ okF d σ y = true ∧ (newL I y).all (okWf d σ) = true := by
  unfold wayR at h
  split at h
  · rename_i cs' o' y' hs
    split at h
    · rename_i hb
      simp only [Bool.and_eq_true] at hb
      obtain ⟨h1, h2, h3⟩ := hb
      obtain rfl := outEq_eq h1
      obtain ⟨rfl, rfl⟩ := Prod.mk.inj (Option.some.inj h)
      exact ⟨fun hc => ⟨selW_at hs hc⟩, h2, h3⟩
    · cases h
  · cases h
/-- A law, from what its code comes to. -/
theorem seg_true {f : FuncId} {fn : Func} {c : Code} (hT : TbOk P tb) (hf : P.funcs[f]? = some fn) (hb : fn.body = some c) {args : List Sv} {σ : St} {vs : List Nat} (hle : args.length ≤ fn.ntmps)
    (h : SegTo P fn.ntmps (enterSt (withVr σ vs) args) [.code c] .normal fun y => (y.1 = .out .normal ∨ y.1 = .out .ret) ∧ ∃ l, evRes tb y.2 fn.results.toList = some (.one (.b true l)))
    {e : Env} {w : World} (hp : Hp (ctx0 w) e (look σ) w) (ha : ∀ x ∈ args, x.sc (look σ)) : Calls P f (args.map (·.den e)).toArray w fun en w' => en = .returned (.bool true) ∧ Below w.heap.size w w' := by
  have hR := enter_rel (σ := withVr σ vs) (by rw [look_withVr]; exact hp) (by rw [look_withVr]; exact ha) hle
  refine calls_of_wp hf hb ?_
  refine h.run (ctx0 w) e _ w (bodyPost P fn _) hR fun y hy e' a' w' hR' => ?_
  obtain ⟨ho, l, hv⟩ := hy
  obtain ⟨r1, _⟩ := evRes_run hT hR' hv
  have hB : Below w.heap.size w w' := ⟨hR'.hp.fr.os, hR'.hp.fr.tape, hR'.hp.fr.output, hR'.hp.fr.size, fun k hk => hR'.hp.fr.block k hk (by show ¬ w.heap.size ≤ k; omega)⟩
  have hend : ∃ v', (results fn a'.tmps).run P w' = .ok v' w' ∧ Ending.returned v' = .returned (.bool true) ∧ Below w.heap.size w w' := ⟨_, r1, rfl, hB⟩
  obtain ⟨f', σ'⟩ := y
  rcases ho with ho | ho
  · simp only at ho; subst ho
    exact ⟨hR'.df, hend⟩
  · simp only at ho; subst ho
    exact ⟨hR'.df, hend⟩
/-- A row that a caller hands over: it is only read. -/
def stO (T m : Nat) (f : Nat → Value) : St := { st0 with bk := [(0, .oq T true m f none)], nx := 1 }
def envO (a : Addr) : Env := ⟨fun _ => (a.block, a.off), fun _ => 0⟩
theorem hpO {w : World} {a : Addr} {T m : Nat} {f : Nat → Value} (hb : a.block < w.heap.size) (hc : ∀ off, off < m → w.cell? ⟨a.block, a.off + off, none⟩ = some (f off)) (hG : Glob0 w := by exact glob0 w) : Hp (ctx0 w) (envO a) (look (stO T m f)) w := by
  have k0 : ∀ i b, look (stO T m f) (.k i) = some (.bk b) → i = 0 ∧ b = .oq T true m f none := by
    intro i b h
    simp only [look, stO, alook] at h
    cases hi : Nat.beq 0 i with
    | true =>
      rw [hi] at h
      exact ⟨(beq_iff'.1 hi).symm, by simpa [Blk.info] using h.symm⟩
    | false => rw [hi] at h; cases h
  refine ⟨fun _ h => h, ?_, ?_, ?_, ?_, ?_, ?_, ?_, ⟨fun _ _ h => (by cases h), fun _ _ h => (by cases h)⟩, ⟨rfl, rfl, rfl, Nat.le_refl _, fun _ _ _ => rfl, hG⟩⟩
  · intro id off v h
    simp only [look, stO, alook] at h
    cases hi : Nat.beq 0 id with
    | true => rw [hi] at h; cases h
    | false => rw [hi] at h; cases h
  · intro id t n cp h; obtain ⟨_, h⟩ := k0 _ _ h; cases h
  · intro id t ro n g cp h off ho
    obtain ⟨rfl, h⟩ := k0 _ _ h
    cases h
    exact ⟨hc off ho, fun h => by cases h⟩
  · intro id b c es h hcp; obtain ⟨_, rfl⟩ := k0 _ _ h; cases hcp
  · intro i i' b b' h _ hr; obtain ⟨_, rfl⟩ := k0 _ _ h; cases hr
  · intro i b h _; exact hb
  · intro i b h hr; obtain ⟨_, rfl⟩ := k0 _ _ h; cases hr
theorem rvV_i (d : List FamP) (y : St) (j : Nat) : (rvV d y).i j = rvI d y j := rfl
theorem rvV_b (d : List FamP) (y : St) (j : Nat) : (rvV d y).b j = rvB d y j := rfl
theorem apps_nil (σ : St) : σ.apps [] = some σ := rfl
theorem famW_same {v v' : FVal} : ∀ {d : List FamP} {j : Nat}, (∀ (i : Nat) (p : FamP), d[i]? = some p → p.ws v (j + i) = p.ws v' (j + i)) → famW v j d = famW v' j d
  | [], _, _ => rfl
  | p :: d, j, h => by
    have h0 := h 0 p rfl
    rw [Nat.add_zero] at h0
    have h1 := famW_same (v := v) (v' := v') (d := d) (j := j + 1) fun i q hq => by
      have := h (i + 1) q (by simpa using hq)
      rwa [show j + (i + 1) = j + 1 + i by omega] at this
    rw [famW, famW, h0, h1]
end
end Sx
end Go.Proofs.Ytladkknbkgomfaa

/-
  A slice that is handed over: its cells.
-/
set_option linter.unusedSimpArgs false
set_option linter.unusedVariables false
namespace Go.Proofs.Ytladkknbkgomfaa
namespace Sx
open Go.RowKit

section
variable {P : Program} {tb : Tb} {H : Type} {enc : TypeId × Value → H} {w : World} {base : Nat} {spare : Nat → Bool} {held : Bool}
theorem cell_in {a : Addr} {v : Value} (h : w.cell? a = some v) : a.block < w.heap.size := by
  rcases Nat.lt_or_ge a.block w.heap.size with h1 | h1
  · exact h1
  · simp [World.cell?, Array.getElem?_eq_none h1] at h
/-- The cells of element j. -/
def elAt (f : Nat → Value) (sz j : Nat) : List Value := (List.range sz).map fun o => f (j * sz + o)
theorem open_rows (hT : TbOk P tb) {t te : TypeId} {i : TypeInfo} {ls : List Lf} {x : DataW H × List MemPlace} {v : Value} (ht : tb.und t = some (.slice te)) (hi : tb.info te = some i) (hl : leaves tb 20 te = some ls) (hsz : 0 < i.size) {n : Nat} (h : DataW.trod enc P w base spare held n t [v] = some x) :
    (∃ a c, v = .slice a 0 c) ∨ ∃ (b off len cap : Nat) (f : Nat → Value), v = .slice (some ⟨b, off, none⟩) len cap ∧ 0 < len ∧ len ≤ maxLen ∧ b < w.heap.size ∧ (∀ k, k < len * i.size → w.cell? ⟨b, off + k, none⟩ = some (f k)) ∧ ∀ j, j < len → All2 Lf.ok ls (elAt f i.size j) := by
  rcases Go.Deep.open_slice (hT.und ht) h with ⟨hcs, _⟩ | ⟨a, len, cap, m, n', D, Pl, hcs, hb, hle, hm, hmm, hx, hc⟩
  · simp only [List.cons.injEq, and_true] at hcs
    exact Or.inl ⟨none, 0, hcs⟩
  · simp only [List.cons.injEq, and_true] at hcs
    rcases Nat.eq_zero_or_pos len with h0 | h0
    · subst h0; exact Or.inl ⟨some a, cap, hcs⟩
    right
    have hlm : len ≤ m := by rw [hmm]; split <;> omega
    rw [cellsOf_info hT hi] at hc
    have each : ∀ j, j < len → ∃ cs', cs'.length = i.size ∧ (∀ o, o < i.size → w.cell? (a.add (j * i.size + o)) = cs'[o]?) ∧ All2 Lf.ok ls cs' := by
      intro j hj
      obtain ⟨cs', h1, h2⟩ := hc j (by omega)
      obtain ⟨_, q1, q2⟩ := World.cells?_some h1
      refine ⟨cs', q1, fun o ho => ?_, leaves_ok hT 20 te ls cs' n' _ hl h2⟩
      have := q2 o ho
      rwa [Go.Deep.add_add] at this
    have all : ∀ k, k < len * i.size → ∃ v, w.cell? (a.add k) = some v := by
      intro k hk
      obtain ⟨cs', q1, q2, _⟩ := each (k / i.size) (Nat.div_lt_of_lt_mul (by rw [Nat.mul_comm]; exact hk))
      have hmod : k % i.size < i.size := Nat.mod_lt _ hsz
      have := q2 (k % i.size) hmod
      rw [show k / i.size * i.size + k % i.size = k by rw [Nat.mul_comm]; exact Nat.div_add_mod k i.size] at this
      rw [this]
      exact ⟨_, List.getElem?_eq_getElem (by omega)⟩
    obtain ⟨v0, hv0⟩ := all 0 (Nat.mul_pos h0 hsz)
    obtain ⟨b, off, spot⟩ := a
    have hspot : spot = none := by simpa [Addr.add] using World.cell?_spot hv0
    subst hspot
    have hadd : ∀ j, ((⟨b, off, none⟩ : Addr).add j) = ⟨b, off + j, none⟩ := fun j => by
      unfold Addr.add
      by_cases e : j = 0
      · subst e; simp
      · simp [e]
    refine ⟨b, off, len, cap, fun k => (w.cell? ⟨b, off + k, none⟩).getD undef, hcs, h0, by omega, ?_, fun k hk => ?_, fun j hj => ?_⟩
    · rw [hadd] at hv0; exact cell_in hv0
    · obtain ⟨v, hv⟩ := all k hk
      rw [hadd] at hv
      show _ = some ((w.cell? ⟨b, off + k, none⟩).getD undef)
      rw [hv]; rfl
    · obtain ⟨cs', q1, q2, q3⟩ := each j hj
      have : elAt (fun k => (w.cell? ⟨b, off + k, none⟩).getD undef) i.size j = cs' := by
        apply List.ext_getElem?
        intro o
        unfold elAt
        by_cases ho : o < i.size
        · rw [List.getElem?_map, List.getElem?_range ho]
          have h2 := q2 o ho
          rw [hadd] at h2
          rw [Option.map_some]
          show some ((w.cell? ⟨b, off + (j * i.size + o), none⟩).getD undef) = _
          rw [h2, List.getElem?_eq_getElem (by omega)]
          rfl
        · rw [List.getElem?_eq_none (by simp; omega), List.getElem?_eq_none (by omega)]
      rw [this]; exact q3
theorem all2_isV : ∀ {ls : List Lf} {cs : List Value}, All2 Lf.ok ls cs → ∀ o, o < ls.length → (lfAt ls o).isV (cs.getD o undef) = true
  | _, _, .nil, o, h => by simp at h
  | l :: ls, c :: cs, .cons hc h, o, ho => by
    cases o with
    | zero =>
      show l.isV c = true
      cases l with
      | b => obtain ⟨b, rfl⟩ := hc; rfl
      | i k => obtain ⟨n, rfl, _⟩ := hc; simp [Lf.isV]
    | succ o =>
      have := all2_isV h o (by simpa using ho)
      simpa [lfAt] using this
/-- What is demanded where an element is read. -/
theorem rows_isV {f : Nat → Value} {ls : List Lf} {sz j : Nat} (h : All2 Lf.ok ls (elAt f sz j)) (hsz : ls.length = sz) : ((List.range sz).all fun o => (lfAt ls o).isV (f (0 + j * sz + o))) = true := by
  rw [List.all_eq_true]
  intro o ho
  have ho' : o < sz := List.mem_range.1 ho
  have := all2_isV h o (by omega)
  unfold elAt at this
  rw [List.getD_eq_getElem?_getD, List.getElem?_map, List.getElem?_range ho'] at this
  rw [Nat.zero_add]
  simpa using this
end
end Sx
end Go.Proofs.Ytladkknbkgomfaa

/-
  Plants: Show of both sides; signals that are held against each other; the parameters.
-/
set_option linter.unusedSimpArgs false
set_option linter.unusedVariables false
namespace Go.Proofs.Ytladkknbkgomfaa
open Sx Go.RowKit Mr
/-- What Show hands back. -/
def shF (l : List Brk) (t : Tru) (sh : T3) : Nat → Value := if okTru t = true then sgF l t sh else zS
def shE (t : Tru) : Int := if okTru t = true then 0 else 2
theorem PShow_any {N M P : Nat} {l : List Brk} {D : List T3} {lag : Nat} {sh : T3} {fi : Bool} {wp : Nat → Option Nat} {w : World} (h : PlAt N M P l D lag sh fi wp w) (t : Tru) : Calls Try.prog 12 #[.pointer (some ⟨P, 0, none⟩), .agg (truC t).toArray] w fun e w' => e = .returned (.tuple #[.agg (fA 31 (shF l t sh)), .int .i64 (shE t)]) ∧ Below w.heap.size w w' := by
  unfold shF shE
  cases hk : okTru t with
  | true => rw [if_pos rfl, if_pos rfl]; exact Show_yes h t hk
  | false => rw [if_neg (by decide), if_neg (by decide)]; exact Show_no h t hk
theorem RShow_any {M Q : Nat} {l : List Brk} {A : List ActM} {lag : Nat} {sh : T3} {fi : Bool} {aL : Option Addr} {cL : Nat} {vA : Value} {w : World} (h : RpAt M Q l A lag sh fi aL cL vA w) (hn : l.length ≤ 16) (t : Tru) : Calls Try.prog 13 #[.pointer (some ⟨Q, 0, none⟩), .agg (truC t).toArray] w fun e w' => e = .returned (.tuple #[.agg (fA 31 (shF l t sh)), .int .i64 (shE t)]) ∧ Below w.heap.size w w' := by
  unfold shF shE
  cases hk : okTru t with
  | true => rw [if_pos rfl, if_pos rfl]; exact RShow_yes h hn t hk
  | false => rw [if_neg (by decide), if_neg (by decide)]; exact RShow_no h hn t hk
/-- Which cells of signals are truth values. -/
def isB (k : Nat) : Bool := if k < 18 then k % 6 == 0 else k < 27 || k == 29 || k == 30
def boolOf : Value → Bool
  | .bool b => b
  | _ => false
def numOf : Value → Int
  | .int _ n => n
  | _ => 0
theorem zS_kind {k : Nat} (hk : k < 31) : zS k = if isB k = true then .bool (boolOf (zS k)) else .int .i64 (numOf (zS k)) := by
  unfold zS isB
  by_cases c1 : k < 18
  · simp only [c1, if_true]
    by_cases c2 : k % 6 = 0
    · simp [c2, boolOf]
    · simp [c2, numOf]
  · simp only [c1, if_false]
    by_cases c2 : k < 27
    · simp [c2, boolOf]
    · simp only [c2, if_false]
      by_cases c3 : k < 29
      · have : ¬ k = 29 := by omega
        have : ¬ k = 30 := by omega
        simp [*, numOf]
      · have : k = 29 ∨ k = 30 := by omega
        rcases this with rfl | rfl <;> rfl
theorem sgF_kind {l : List Brk} {t : Tru} {sh : T3} {k : Nat} (hk : k < 31) : sgF l t sh k = if isB k = true then .bool (boolOf (sgF l t sh k)) else .int .i64 (numOf (sgF l t sh k)) := by
  unfold sgF rF
  by_cases c1 : k < 18
  · simp only [if_pos c1]
    rw [if_pos (show k / 6 < 3 by omega)]
    unfold chV
    have hz := zS_kind (k := k / 6 * 6 + k % 6) (by omega)
    have e : k / 6 * 6 + k % 6 = k := by omega
    rw [e] at hz ⊢
    by_cases c2 : (hasB 2 ((k / 6 : Nat) : Int) l).1 = true
    · simp only [if_pos c2]; exact hz
    · simp only [if_neg c2]
      by_cases c3 : k % 6 = 0
      · have : isB k = true := by unfold isB; rw [if_pos c1, c3]; rfl
        rw [if_pos c3, if_pos this]; rfl
      · have : isB k = false := by unfold isB; rw [if_pos c1]; simpa using c3
        rw [if_neg c3, this]; rfl
  · simp only [if_neg c1]
    have hb : k < 27 → isB k = true := fun h => by unfold isB; rw [if_neg c1]; simp [h]
    by_cases c2 : k < 21
    · simp only [if_pos c2]; rw [if_pos (hb (by omega))]; rfl
    · simp only [if_neg c2]
      by_cases c3 : k < 24
      · simp only [if_pos c3]; rw [if_pos (hb (by omega))]; rfl
      · simp only [if_neg c3]
        by_cases c4 : k < 27
        · simp only [if_pos c4]; rw [if_pos (hb c4)]; rfl
        · simp only [if_neg c4]
          have : k = 27 ∨ k = 28 ∨ k = 29 ∨ k = 30 := by omega
          rcases this with rfl | rfl | rfl | rfl <;> rfl
theorem shF_kind {l : List Brk} {t : Tru} {sh : T3} {k : Nat} (hk : k < 31) : shF l t sh k = if isB k = true then .bool (boolOf (shF l t sh k)) else .int .i64 (numOf (shF l t sh k)) := by
  unfold shF
  by_cases c : okTru t = true
  · simp only [if_pos c]; exact sgF_kind hk
  · simp only [if_neg c]; exact zS_kind hk
theorem shF_one {l : List Brk} {t : Tru} {sh : T3} {k : Nat} : (shF l t sh k).oneCell' = true := by
  unfold shF
  split
  · exact rF_one
  · exact zS_one
def lsSg : List Lf := [.b, .i .i64, .i .i64, .i .i64, .i .i64, .i .i64, .b, .i .i64, .i .i64, .i .i64, .i .i64, .i .i64, .b, .i .i64, .i .i64, .i .i64, .i .i64, .i .i64, .b, .b, .b, .b, .b, .b, .b, .b, .b, .i .i64, .i .i64, .b, .b]
section
set_option maxRecDepth 100000
theorem sg_arr {G : Nat → Value} (h : ∀ k, k < 31 → G k = if isB k = true then .bool (boolOf (G k)) else .int .i64 (numOf (G k))) : fA 31 G = ((symL (fun k => boolOf (G k)) (fun k => numOf (G k)) 0 lsSg).map (·.den env0)).toArray := by
  have e : fA 31 G = fA 31 (fun k => if isB k = true then .bool (boolOf (G k)) else .int .i64 (numOf (G k))) := fA_ext h
  rw [e]
  rfl
theorem sg_eqT (b : Nat → Bool) (n : Nat → Int) : eqV tbl 50 52 (.agg (symL b n 0 lsSg)) (.agg (symL b n 0 lsSg)) = some (((((b 0 == b 0) && ((n 1 == n 1) && ((n 2 == n 2) && ((n 3 == n 3) && ((n 4 == n 4) && (n 5 == n 5)))))) && (((b 6 == b 6) && ((n 7 == n 7) && ((n 8 == n 8) && ((n 9 == n 9) && ((n 10 == n 10) && (n 11 == n 11)))))) && ((b 12 == b 12) && ((n 13 == n 13) && ((n 14 == n 14) && ((n 15 == n 15) && ((n 16 == n 16) && (n 17 == n 17)))))))) && (((b 18 == b 18) && ((b 19 == b 19) && (b 20 == b 20))) && (((b 21 == b 21) && ((b 22 == b 22) && (b 23 == b 23))) && (((b 24 == b 24) && ((b 25 == b 25) && (b 26 == b 26))) && ((n 27 == n 27) && ((n 28 == n 28) && ((b 29 == b 29) && (b 30 == b 30)))))))), false) := by kernel_rfl
theorem t3_eqT (b : Nat → Bool) : eqV tbl 50 39 (.agg (symL b (fun _ => 0) 0 [.b, .b, .b])) (.agg (symL b (fun _ => 0) 0 [.b, .b, .b])) = some (((b 0 == b 0) && ((b 1 == b 1) && (b 2 == b 2))), false) := by kernel_rfl
end
theorem sg_run {G : Nat → Value} (h : ∀ k, k < 31 → G k = if isB k = true then .bool (boolOf (G k)) else .int .i64 (numOf (G k))) (W : World) : (Op.equalIn 10000 52 (.agg (fA 31 G)) (.agg (fA 31 G))).run Try.prog W = .ok true W := by
  have h1 := eqV_ok tbl_ok 50 9950 _ _ _ _ (sg_eqT (fun k => boolOf (G k)) (fun k => numOf (G k))) env0 W
  simp only [beq_self_eq_true, Bool.and_self] at h1
  rw [sg_arr h]
  exact h1
theorem t3_run (t : T3) (W : World) : (Op.equalIn 10000 39 (t3A t) (t3A t)).run Try.prog W = .ok true W := by
  have h1 := eqV_ok tbl_ok 50 9950 _ _ _ _ (t3_eqT (fun k => at3 t k)) env0 W
  simp only [beq_self_eq_true, Bool.and_self] at h1
  exact h1
theorem sguard : Try.prog.eqGuardType Try.prog.depth 52 = false := by kernel_rfl
theorem t3guard : Try.prog.eqGuardType Try.prog.depth 39 = false := by kernel_rfl
theorem wp_sneq {o : Oper} {a : Act} {w : World} {K : Act → World → Prop} {Q : Exit → Act → World → Prop} {G : Nat → Value} (h9 : ∀ k, k < 31 → G k = if isB k = true then .bool (boolOf (G k)) else .int .i64 (numOf (G k))) (x y : Operand) (u : TypeId) (ho : o.op = .binOp .neq 52 x y u) (hx : a.eval x = .agg (fA 31 G)) (hy : a.eval y = .agg (fA 31 G)) (h : K (a.put o.dst (.bool false)) w) : Oper.wp Try.prog o a w K Q := by
  unfold Oper.wp execOp
  simp only [ho, hx, hy, Sem.run_bind, Sem.run_pure, run_eqGuard_agg _ _ _ _ _ _ _ sguard, Result.andThen_ok, run_neq_struct, sg_run h9 w]
  exact h
theorem wp_tneq {o : Oper} {a : Act} {w : World} {K : Act → World → Prop} {Q : Exit → Act → World → Prop} (t : T3) (x y : Operand) (u : TypeId) (ho : o.op = .binOp .neq 39 x y u) (hx : a.eval x = t3A t) (hy : a.eval y = t3A t) (h : K (a.put o.dst (.bool false)) w) : Oper.wp Try.prog o a w K Q := by
  unfold t3A at hx hy
  unfold Oper.wp execOp
  have h9 := t3_run t w
  unfold t3A at h9
  simp only [ho, hx, hy, Sem.run_bind, Sem.run_pure, run_eqGuard_agg _ _ _ _ _ _ _ t3guard, Result.andThen_ok, run_neq_struct, h9]
  exact h
end Go.Proofs.Ytladkknbkgomfaa

/-
  Plants: the parameters of the law.
-/
set_option linter.unusedSimpArgs false
set_option linter.unusedVariables false
namespace Go.Proofs.Ytladkknbkgomfaa
open Sx Go.RowKit Mr
abbrev Mv := Tru × ActM
def mvC (m : Mv) : List Value := truC m.1 ++ actC m.2
theorem mvC_len (m : Mv) : (mvC m).length = 35 := rfl
/-- A slice of moves in memory. -/
def MvAt (a : Option Addr) (l : List Mv) (W : World) : Prop := l ≠ [] → ∃ b off, a = some ⟨b, off, none⟩ ∧ b < W.heap.size ∧ ∀ (k : Nat) (m : Mv), l[k]? = some m → ∀ (j : Nat) (u : Value), (mvC m)[j]? = some u → W.cell? ⟨b, off + k * 35 + j, none⟩ = some u
def lsMv : List Lf := lsT ++ [.b, .b, .b, .b]
def lsBk : List Lf := [.i .i64, .i .i64, .b]
def mvOf (cs : List Value) : Mv := (⟨getN cs, getB cs 25, getB cs 26, getN cs 27, getN cs 28, getB cs 29, getB cs 30⟩, ((getB cs 31, getB cs 32, getB cs 33), getB cs 34))
def bkOf (cs : List Value) : Brk := (getN cs 0, getN cs 1, getB cs 2)
section
set_option maxRecDepth 100000
theorem mvOf_cells {cs : List Value} (h : All2 Lf.ok lsMv cs) : cs = mvC (mvOf cs) := ((symL_of (c0 := cs) (j := 0) h (fun i => by rw [Nat.zero_add])).1 env0).trans rfl
theorem bkOf_cells {cs : List Value} (h : All2 Lf.ok lsBk cs) : cs = [.int .i64 (bkOf cs).1, .int .i64 (bkOf cs).2.1, .bool (bkOf cs).2.2] := ((symL_of (c0 := cs) (j := 0) h (fun i => by rw [Nat.zero_add])).1 env0).trans rfl
theorem szMv : Try.t43.size = 35 := by kernel_rfl
theorem szBk : Try.t79.size = 3 := by kernel_rfl
variable {H : Type} {enc : TypeId × Value → H} {W : World} {held : Bool}
theorem elAt_get {f : Nat → Value} {sz j o : Nat} (h : o < sz) : (elAt f sz j)[o]? = some (f (j * sz + o)) := by
  unfold elAt
  rw [List.getElem?_map, List.getElem?_range h]; rfl
theorem elAt_len {f : Nat → Value} {sz j : Nat} : (elAt f sz j).length = sz := by unfold elAt; simp
theorem moves_open {n : Nat} {v : Value} {x : DataW H × List MemPlace} (h : DataW.trod enc Try.prog W 0 (fun _ => true) held n 23 [v] = some x) :
    ∃ (a : Option Addr) (c : Nat) (l : List Mv), v = .slice a l.length c ∧ MvAt a l W := by
  rcases open_rows (i := Try.t43) (te := 43) (ls := lsMv) tbl_ok (by kernel_rfl) (by kernel_rfl) (by kernel_rfl) (by rw [szMv]; decide) h with ⟨a, c, rfl⟩ | ⟨b, off, len, cap, f, rfl, h0, hle, hb, hc, hf⟩
  · exact ⟨a, c, [], rfl, fun hn => absurd rfl hn⟩
  · rw [szMv] at hc hf
    refine ⟨some ⟨b, off, none⟩, cap, (List.range len).map (fun j => mvOf (elAt f 35 j)), by simp, fun _ => ⟨b, off, rfl, hb, fun k m hk j u hj => ?_⟩⟩
    have hkl : k < len := by have := (List.getElem?_eq_some_iff.1 hk).1; simpa using this
    rw [List.getElem?_map, List.getElem?_range hkl] at hk
    have hm := Option.some.inj hk
    have e := mvOf_cells (hf k hkl)
    have hj35 : j < 35 := by have := (List.getElem?_eq_some_iff.1 hj).1; rwa [mvC_len] at this
    rw [← hm, ← e, elAt_get hj35] at hj
    rw [← Option.some.inj hj, Nat.add_assoc]
    exact hc _ (by have : (k + 1) * 35 ≤ len * 35 := Nat.mul_le_mul_right _ hkl; omega)
theorem breaks_open {n : Nat} {v : Value} {x : DataW H × List MemPlace} (h : DataW.trod enc Try.prog W 0 (fun _ => true) held n 22 [v] = some x) :
    ∃ (a : Option Addr) (c : Nat) (l : List Brk), v = .slice a l.length c ∧ BkAt a l W := by
  rcases open_rows (i := Try.t79) (te := 79) (ls := lsBk) tbl_ok (by kernel_rfl) (by kernel_rfl) (by kernel_rfl) (by rw [szBk]; decide) h with ⟨a, c, rfl⟩ | ⟨b, off, len, cap, f, rfl, h0, hle, hb, hc, hf⟩
  · exact ⟨a, c, [], rfl, fun hn => absurd rfl hn⟩
  · rw [szBk] at hc hf
    refine ⟨some ⟨b, off, none⟩, cap, (List.range len).map (fun j => bkOf (elAt f 3 j)), by simp, fun _ => ⟨b, off, rfl, hb, fun k m hk => ?_⟩⟩
    have hkl : k < len := by have := (List.getElem?_eq_some_iff.1 hk).1; simpa using this
    rw [List.getElem?_map, List.getElem?_range hkl] at hk
    have hm := Option.some.inj hk
    have e := bkOf_cells (hf k hkl)
    have hle3 : (k + 1) * 3 ≤ len * 3 := Nat.mul_le_mul_right _ hkl
    have g : ∀ j, j < 3 → ∀ u, ([.int .i64 m.1, .int .i64 m.2.1, .bool m.2.2] : List Value)[j]? = some u → W.cell? ⟨b, off + k * 3 + j, none⟩ = some u := fun j hj u hu => by
      rw [← hm, ← e, elAt_get hj] at hu
      rw [← Option.some.inj hu, Nat.add_assoc]
      exact hc _ (by omega)
    exact ⟨g 0 (by decide) _ rfl, g 1 (by decide) _ rfl, g 2 (by decide) _ rfl⟩
end
theorem wf_u8d {n : Int} (h : (Lit.int .u8 n).wf = true) : ∃ k : Nat, n = (k : Int) ∧ k < 256 := by
  simp only [Lit.wf, Bool.and_eq_true, decide_eq_true_eq] at h
  have h1 : (0 : Int) ≤ n := h.1
  have h2 : n ≤ 255 := h.2
  exact ⟨n.toNat, by omega, by omega⟩
theorem MvAt.step {a : Option Addr} {l : List Mv} {W w2 : World} (h : MvAt a l W) (hb : Below W.heap.size W w2) : MvAt a l w2 := fun hn => by
  obtain ⟨b, off, e, h1, h2⟩ := h hn
  exact ⟨b, off, e, Nat.lt_of_lt_of_le h1 hb.size, fun k m hk j u hj => cell_step (h2 k m hk j u hj) hb⟩
/-- The law's state. -/
structure LawS (w : World) (M P Q : Nat) (l : List Brk) (lag : Nat) (wp : Nat → Option Nat) (aL : Option Addr) (cL : Nat) (A : List ActM) (sh : T3) (fi : Bool) (vA : Value) (W : World) : Prop where
  pl : PlAt w.heap.size M P l (A.map (·.1)) lag sh fi wp W
  rp : RpAt M Q l A lag sh fi aL cL vA W
  bel : Below w.heap.size w W
  hM : w.heap.size ≤ M
  hL : ∀ b, aL = some ⟨b, 0, none⟩ → M ≤ b
section
variable {w W w2 : World} {M P Q : Nat} {l : List Brk} {lag : Nat} {wp : Nat → Option Nat} {aL : Option Addr} {cL : Nat} {A : List ActM} {sh : T3} {fi : Bool} {vA : Value}
theorem LawS.step (h : LawS w M P Q l lag wp aL cL A sh fi vA W) (hb : Below W.heap.size W w2) : LawS w M P Q l lag wp aL cL A sh fi vA w2 := ⟨h.pl.step hb, h.rp.step hb, bStep h.bel hb, h.hM, h.hL⟩
end
end Go.Proofs.Ytladkknbkgomfaa

/-
  Plants: a move of both sides; NewPlant of both sides.
-/
set_option linter.unusedSimpArgs false
set_option linter.unusedVariables false
namespace Go.Proofs.Ytladkknbkgomfaa
open Go.RowKit Mr
theorem New_no {lag : Nat} {l : List Brk} {c : Nat} {a : Option Addr} {w : World} (hl : lag ≤ 20) (hn : l.length ≤ 16) (hA : BkAt a l w) (hk : l.all okBrk = false) : Calls Try.prog 5 #[.int .i64 (lag : Int), .slice a l.length c] w fun e w' => e = .returned (.tuple #[.pointer none, .int .i64 2]) ∧ Below w.heap.size w w' := (New_loop lag l c a w hl hn hA).mono fun e w' r => by
  rcases r with ⟨-, h1, h2⟩ | ⟨h1, -⟩
  · exact ⟨h1, h2⟩
  · rw [hk] at h1; cases h1
theorem New_yes {lag : Nat} {l : List Brk} {c : Nat} {a : Option Addr} {w : World} (hl : lag ≤ 20) (hn : l.length ≤ 16) (hA : BkAt a l w) (hk : l.all okBrk = true) : Calls Try.prog 5 #[.int .i64 (lag : Int), .slice a l.length c] w fun e w' => ∃ P wp, e = .returned (.tuple #[.pointer (some ⟨P, 0, none⟩), .int .i64 0]) ∧ PlAt w.heap.size w'.heap.size P l [] lag f3 false wp w' ∧ Below w.heap.size w w' := (New_loop lag l c a w hl hn hA).mono fun e w' r => by
  rcases r with ⟨h1, -⟩ | ⟨-, h1⟩
  · rw [hk] at h1; cases h1
  · exact h1
theorem RNew_no {lag : Nat} {l : List Brk} {c : Nat} {a : Option Addr} {w : World} (hl : lag ≤ 20) (hn : l.length ≤ 16) (hA : BkAt a l w) (hk : l.all okBrk = false) : Calls Try.prog 6 #[.int .i64 (lag : Int), .slice a l.length c] w fun e w' => e = .returned (.tuple #[.pointer none, .int .i64 2]) ∧ Below w.heap.size w w' := (RNew_loop lag l c a w hl hn hA).mono fun e w' r => by
  rcases r with ⟨-, h1, h2⟩ | ⟨h1, -⟩
  · exact ⟨h1, h2⟩
  · rw [hk] at h1; cases h1
theorem RNew_yes {lag : Nat} {l : List Brk} {c : Nat} {a : Option Addr} {w : World} (hl : lag ≤ 20) (hn : l.length ≤ 16) (hA : BkAt a l w) (hk : l.all okBrk = true) : Calls Try.prog 6 #[.int .i64 (lag : Int), .slice a l.length c] w fun e w' => ∃ Q aL cL, e = .returned (.tuple #[.pointer (some ⟨Q, 0, none⟩), .int .i64 0]) ∧ RpAt w.heap.size Q l [] lag f3 false aL cL (.slice none 0 0) w' ∧ Below w.heap.size w w' ∧ ∀ b, aL = some ⟨b, 0, none⟩ → w.heap.size ≤ b := (RNew_loop lag l c a w hl hn hA).mono fun e w' r => by
  rcases r with ⟨h1, -⟩ | ⟨-, h1⟩
  · rw [hk] at h1; cases h1
  · exact h1
section
variable {M Q : Nat} {l : List Brk} {A : List ActM} {lag : Nat} {sh : T3} {fi : Bool} {aL : Option Addr} {cL : Nat} {vA : Value} {w W : World} {S : Nat → Prop}
theorem RpAt.keep2 (h : RpAt M Q l A lag sh fi aL cL vA w) (hk : KeepX S w W) (hQ : ¬ S Q) (hA : ∀ b, vA.ownBlock = some b → ¬ S b) (hL : l ≠ [] → ∀ b, aL = some ⟨b, 0, none⟩ → ¬ S b) : RpAt M Q l A lag sh fi aL cL vA W := by
  refine ⟨h.hQ, Nat.le_trans h.hM hk.size, hk.blk h.blk hQ, ?_, h.nA, fun hn => ?_⟩
  · obtain ⟨h1, h2⟩ := h.oA
    refine ⟨h1, ?_⟩
    rcases h2 with h2 | ⟨g, cap, cur, q1, q2, q3, q4⟩
    · exact Or.inl h2
    · exact Or.inr ⟨g, cap, cur, q1, q2, hk.blk q3 (hA g (by rw [q1]; rfl)), q4⟩
  · obtain ⟨b, e, h1, h2, h3, h4⟩ := h.oL hn
    exact ⟨b, e, h1, Nat.lt_of_lt_of_le h2 hk.size, Nat.lt_of_lt_of_le h3 hk.size, fun j u hj => hk.cell (h4 j u hj) (hL hn b e)⟩
theorem RpAt.ow (h : RpAt M Q l A lag sh fi aL cL vA w) : ∀ b, vA.ownBlock = some b → M ≤ b ∧ b < w.heap.size := fun b e => World.ownsRow.lt h.oA b e
end
def newT (l : List Brk) (A : List ActM) (lag : Nat) (m : ActM) (sh : T3) : T3 := moveT l (oldT (A.map (·.1)) m.1 lag) sh
/-- Both plants, while they move. -/
structure MvS (W0 : World) (N M P Q : Nat) (l : List Brk) (lag : Nat) (wp : Nat → Option Nat) (aL : Option Addr) (cL : Nat) (A : List ActM) (sh : T3) (fi : Bool) (vA : Value) (m : ActM) (b0 b1 : Bool) (v0 v1 : Value) (W : World) : Prop where
  kp : KeepX (fun k => k = P ∨ k = Q ∨ vA.ownBlock = some k) W0 W
  pl : PlAt N M P l ((if b0 = true then A ++ [m] else A).map (·.1)) lag (if b0 = true then newT l A lag m sh else sh) (if b0 = true then (fi || m.2) else fi) wp W
  rp : if b1 = true then (∃ vA', RpAt M Q l (A ++ [m]) lag (newT l A lag m sh) (fi || m.2) aL cL vA' W) else RpAt M Q l A lag sh fi aL cL vA W
  e0 : b0 = true → v0 = .int .i64 0
  e1 : b1 = true → v1 = .int .i64 0
section
variable {W0 W w2 : World} {N M P Q : Nat} {l : List Brk} {lag : Nat} {wp : Nat → Option Nat} {aL : Option Addr} {cL : Nat} {A : List ActM} {sh : T3} {fi : Bool} {vA : Value} {m : ActM} {b0 b1 : Bool} {v0 v1 : Value}
theorem MvS.start (hp : PlAt N M P l (A.map (·.1)) lag sh fi wp W) (hr : RpAt M Q l A lag sh fi aL cL vA W) (hk : KeepX (fun k => k = P ∨ k = Q ∨ vA.ownBlock = some k) W0 W) : MvS W0 N M P Q l lag wp aL cL A sh fi vA m false false v0 v1 W :=
  ⟨hk, hp, hr, (fun e => by cases e), (fun e => by cases e)⟩
theorem MvS.step (h : MvS W0 N M P Q l lag wp aL cL A sh fi vA m b0 b1 v0 v1 W) (hb : Below W.heap.size W w2) : MvS W0 N M P Q l lag wp aL cL A sh fi vA m b0 b1 v0 v1 w2 := by
  refine ⟨h.kp.step hb, h.pl.step hb, ?_, h.e0, h.e1⟩
  have hr := h.rp
  cases b1 with
  | false => exact RpAt.step hr hb
  | true => obtain ⟨vA', h1⟩ := hr; exact ⟨vA', h1.step hb⟩
theorem MvS.plF0 (h : MvS W0 N M P Q l lag wp aL cL A sh fi vA m false b1 v0 v1 W) : PlAt N M P l (A.map (·.1)) lag sh fi wp W := h.pl
theorem MvS.plT (h : MvS W0 N M P Q l lag wp aL cL A sh fi vA m true b1 v0 v1 W) : PlAt N M P l ((A ++ [m]).map (·.1)) lag (newT l A lag m sh) (fi || m.2) wp W := h.pl
theorem MvS.rpF0 (h : MvS W0 N M P Q l lag wp aL cL A sh fi vA m b0 false v0 v1 W) : RpAt M Q l A lag sh fi aL cL vA W := h.rp
theorem MvS.rpT (h : MvS W0 N M P Q l lag wp aL cL A sh fi vA m b0 true v0 v1 W) : ∃ vA', RpAt M Q l (A ++ [m]) lag (newT l A lag m sh) (fi || m.2) aL cL vA' W := h.rp
theorem MvS.mk0 (h : MvS W0 N M P Q l lag wp aL cL A sh fi vA m false b1 v0 v1 W) (hL : l ≠ [] → ∀ b, aL = some ⟨b, 0, none⟩ → b ≠ P) (h1 : PlAt N M P l (A.map (·.1) ++ [m.1]) lag (moveT l (oldT (A.map (·.1)) m.1 lag) sh) (fi || m.2) wp w2) (hk : KeepX (fun k => k = P) W w2) : MvS W0 N M P Q l lag wp aL cL A sh fi vA m true b1 (.int .i64 0) v1 w2 := by
  have hP := h.pl.hP
  refine ⟨h.kp.trans hk fun k _ c => Or.inl c, ?_, ?_, fun _ => rfl, h.e1⟩
  · rw [if_pos rfl, if_pos rfl, if_pos rfl, List.map_append]; exact h1
  · have hr := h.rp
    have key : ∀ {A' : List ActM} {s : T3} {f : Bool} {v : Value}, RpAt M Q l A' lag s f aL cL v W → RpAt M Q l A' lag s f aL cL v w2 := fun hr => hr.keep2 hk (fun e => by have := hr.hQ; omega) (fun b e c => by have := (hr.ow b e).1; omega) fun hn b e c => hL hn b e c
    cases b1 with
    | false => exact key hr
    | true => obtain ⟨vA', g⟩ := hr; exact ⟨vA', key g⟩
theorem MvS.mk1 (h : MvS W0 N M P Q l lag wp aL cL A sh fi vA m b0 false v0 v1 W) {vA' : Value} (h1 : RpAt M Q l (A ++ [m]) lag (moveT l (oldT (A.map (·.1)) m.1 lag) sh) (fi || m.2) aL cL vA' w2) (hk : KeepX (fun k => k = Q ∨ vA.ownBlock = some k) W w2) : MvS W0 N M P Q l lag wp aL cL A sh fi vA m b0 true v0 (.int .i64 0) w2 := by
  have hr : RpAt M Q l A lag sh fi aL cL vA W := h.rp
  refine ⟨h.kp.trans hk fun k _ c => Or.inr c, h.pl.keep hk fun b _ hb c => ?_, ?_, h.e0, fun _ => rfl⟩
  · rcases c with c | c
    · have := hr.hQ; omega
    · have := (hr.ow b c).1; omega
  · rw [if_pos rfl]; exact ⟨vA', h1⟩
end
end Go.Proofs.Ytladkknbkgomfaa

/-
  A region that draws its order, some of whose operations are guarded: by operations whose values are known.
-/
set_option linter.unusedSimpArgs false
set_option linter.unusedVariables false
namespace Go.Proofs.Ytladkknbkgomfaa
open Go.RowKit

section
variable {P : Program} {ops : Array Oper} {Q : Exit → Act → World → Prop}

/-- What is asked of a plan: for each operation whether it is an effect (and which), and the effects that are known to be behind it. -/
def egK (ops : Array Oper) (N f z : Nat) (E : List (Nat × Nat)) (plan : List (Option Nat × List Nat)) : Bool :=
  ((List.range N).all fun i => match ops[i]?, plan[i]? with
  | some o, some p => (match o.guard with | none => true | some (j, _) => (waits ops i).contains j && E.all fun e => decide (e.1 ≠ j)) && plainOp o.op && (o.op.operands.all fun x => match x with
      | .tmp t => (E.map (·.2)).contains t || (List.range N).all fun j => decide (dstOf ops j ≠ some t) || (waits ops i).contains j
      | _ => true) && ((List.range N).all fun j => decide (j = i) || decide (dstOf ops j = none) || decide (dstOf ops j ≠ dstOf ops i)) &&
      (p.2.all fun k => match E[k]? with | some e => (waits ops i).contains e.1 || (waits ops i).any fun j => (ancs ops f j).contains e.1 | none => false) &&
      (match p.1 with | none => E.all fun e => decide (e.1 ≠ i) | some k => (match E[k]? with | some e => decide (e.1 = i) | none => false))
  | _, _ => false) &&
  ((List.range E.length).all fun k => match E[k]? with | some e => decide (e.1 < N) && (decide (dstOf ops e.1 = some e.2) && decide (e.2 < z) || decide (dstOf ops e.1 = none) && decide (z ≤ e.2)) && decide ((plan[e.1]?).map (·.1) = some (some k)) | none => false)
structure EgKAt (ops : Array Oper) (N f : Nat) (E : List (Nat × Nat)) (plan : List (Option Nat × List Nat)) (i : Nat) (o : Oper) (p : Option Nat × List Nat) : Prop where
  plan : plan[i]? = some p
  guard : ∀ j want, o.guard = some (j, want) → j ∈ waits ops i ∧ ∀ e ∈ E, e.1 ≠ j
  sel : ∀ cs b, o.op ≠ .select cs b
  looks : ∀ t, Operand.tmp t ∈ o.op.operands → t ∈ E.map (·.2) ∨ ∀ j, j < N → dstOf ops j = some t → j ∈ waits ops i
  one : ∀ j, j < N → j ≠ i → dstOf ops j = none ∨ dstOf ops j ≠ dstOf ops i
  need : ∀ k ∈ p.2, ∃ e, E[k]? = some e ∧ (e.1 ∈ waits ops i ∨ ∃ j ∈ waits ops i, e.1 ∈ ancs ops f j)
  no : p.1 = none → ∀ e ∈ E, e.1 ≠ i
  yes : ∀ k, p.1 = some k → ∃ e, E[k]? = some e ∧ e.1 = i
theorem egk_at {N f z i : Nat} {E : List (Nat × Nat)} {plan : List (Option Nat × List Nat)} {o : Oper} (h : egK ops N f z E plan = true) (hi : i < N) (ho : ops[i]? = some o) : ∃ p, EgKAt ops N f E plan i o p := by
  unfold egK at h
  rw [Bool.and_eq_true] at h
  have h1 := List.all_eq_true.1 h.1 i (List.mem_range.2 hi)
  rw [ho] at h1
  cases hp : plan[i]? with
  | none => rw [hp] at h1; cases h1
  | some p =>
    rw [hp] at h1
    simp only [Bool.and_eq_true] at h1
    obtain ⟨⟨⟨⟨⟨h1, h2⟩, h4⟩, h5⟩, h6⟩, h7⟩ := h1
    refine ⟨p, hp, ?_, ?_, ?_, ?_, ?_, ?_, ?_⟩
    · intro j want e
      rw [e] at h1
      simp only [Bool.and_eq_true] at h1
      exact ⟨by simpa using h1.1, by simpa using h1.2⟩
    · intro cs b e; rw [e] at h2; simp [plainOp] at h2
    · intro t ht
      rw [Array.all_eq_true'] at h4
      have h8 := h4 (.tmp t) ht
      simp only [Bool.or_eq_true] at h8
      rcases h8 with h8 | h8
      · exact Or.inl (by simpa using h8)
      · refine Or.inr fun j hj hd => ?_
        have h9 := List.all_eq_true.1 h8 j (List.mem_range.2 hj)
        simp only [Bool.or_eq_true, decide_eq_true_eq] at h9
        rcases h9 with h9 | h9
        · exact absurd hd h9
        · simpa using h9
    · intro j hj hne
      have h8 := List.all_eq_true.1 h5 j (List.mem_range.2 hj)
      simp only [Bool.or_eq_true, decide_eq_true_eq] at h8
      rcases h8 with (h8 | h8) | h8
      · exact absurd h8 hne
      · exact Or.inl h8
      · exact Or.inr h8
    · intro k hk
      have h8 := List.all_eq_true.1 h6 k hk
      cases he : E[k]? with
      | none => rw [he] at h8; cases h8
      | some e =>
        rw [he] at h8
        simp only [Bool.or_eq_true, List.any_eq_true] at h8
        refine ⟨e, rfl, ?_⟩
        rcases h8 with h8 | ⟨j, h8, h9⟩
        · exact Or.inl (by simpa using h8)
        · exact Or.inr ⟨j, h8, by simpa using h9⟩
    · intro hn e he
      rw [hn] at h7
      simpa using List.all_eq_true.1 h7 e he
    · intro k hk
      rw [hk] at h7
      simp only at h7
      cases he : E[k]? with
      | none => rw [he] at h7; cases h7
      | some e => rw [he] at h7; exact ⟨e, rfl, by simpa using h7⟩
theorem egk_eff {N f z k : Nat} {E : List (Nat × Nat)} {plan : List (Option Nat × List Nat)} {e : Nat × Nat} (h : egK ops N f z E plan = true) (he : E[k]? = some e) : e.1 < N ∧ (dstOf ops e.1 = some e.2 ∧ e.2 < z ∨ dstOf ops e.1 = none ∧ z ≤ e.2) ∧ (plan[e.1]?).map (·.1) = some (some k) := by
  unfold egK at h
  rw [Bool.and_eq_true] at h
  have hk : k < E.length := (List.getElem?_eq_some_iff.1 he).1
  have h1 := List.all_eq_true.1 h.2 k (List.mem_range.2 hk)
  rw [he] at h1
  simp only [Bool.and_eq_true, Bool.or_eq_true, decide_eq_true_eq] at h1
  exact ⟨h1.1.1, h1.1.2, h1.2⟩

/-- An operation that is passed over. -/
def GdS (ops : Array Oper) (AF : Act) (o : Oper) : Prop := ∃ j want d b, o.guard = some (j, want) ∧ dstOf ops j = some d ∧ AF.tmps[d]? = some (.bool b) ∧ (b == want) = false
/-- An operation that is carried out. -/
def GdT (ops : Array Oper) (AF : Act) (o : Oper) : Prop := o.guard = none ∨ ∃ j want d, o.guard = some (j, want) ∧ dstOf ops j = some d ∧ AF.tmps[d]? = some (.bool want)
def RdK (P : Program) (ops : Array Oper) (St : List Bool → List Value → World → Prop) (AF : Act) (E : List (Nat × Nat)) (need : List Nat) (o : Oper) : Prop :=
  (GdS ops AF o ∧ ∃ d, o.dst = some d ∧ AF.tmps[d]? = some undef) ∨ (GdT ops AF o ∧ RdE P St AF E need o)
def EfK (P : Program) (ops : Array Oper) (St : List Bool → List Value → World → Prop) (AF : Act) (E : List (Nat × Nat)) (k : Nat) (need : List Nat) (o : Oper) : Prop := GdT ops AF o ∧ EfG P St AF E k need o
theorem want_y {o : Oper} {ts : Array Value} {j d : Nat} {want b : Bool} (h1 : o.guard = some (j, want)) (h2 : dstOf ops j = some d) (h3 : ts[d]? = some (.bool b)) : Region.wanted o (yielded ops ts) = (b == want) := by
  unfold Region.wanted yielded
  rw [h1]
  dsimp only
  unfold dstOf at h2
  rw [h2, Option.bind_some, h3]
  cases b <;> cases want <;> rfl
/-- THE RULE. -/
theorem region_gall {id : Nat} {a : Act} {w : World} (N f z : Nat) (E : List (Nat × Nat)) (plan : List (Option Nat × List Nat)) (vals : List (Nat × Value)) (St : List Bool → List Value → World → Prop) (hm : P.follows .mixedOrders = true) (he : early ops = true) (hs0 : ops.size = N) (hz : a.tmps.size = z)
    (hH : egK ops N f z E plan = true)
    (hds : vals.map (fun p => some p.1) = ((List.range N).filter fun i => E.all fun e => decide (e.1 ≠ i)).map (dstOf ops))
    (h0 : ∀ vs, vs.length = E.length → St (E.map fun _ => false) vs w.drew) (each : AllE (RdK P ops St (updAll a vals) E) (EfK P ops St (updAll a vals) E) plan ops.toList)
    (done : ∀ vs W, vs.length = E.length → St (E.map fun _ => true) vs W → Q .normal (putE (updAll a vals) E vs) W) :
    (Code.region id ops true).wp P Q a w := by
  have hidx : ∀ j, (E.all fun e => decide (e.1 ≠ j)) = true ↔ ∀ e ∈ E, e.1 ≠ j := fun j => by simp
  have hsame : ∀ t, (∀ j, j < N → (∀ e ∈ E, e.1 ≠ j) → dstOf ops j ≠ some t) → (updAll a vals).tmps[t]? = a.tmps[t]? := fun t ht => updAll_same _ _ _ fun p hp e => by
    have h1 : some p.1 ∈ vals.map (fun p => some p.1) := List.mem_map.2 ⟨p, hp, rfl⟩
    rw [hds] at h1
    obtain ⟨j, hj, hjd⟩ := List.mem_map.1 h1
    obtain ⟨hj1, hj2⟩ := List.mem_filter.1 hj
    exact ht j (List.mem_range.1 hj1) ((hidx j).1 hj2) (by rw [hjd, e])
  have hdf : (updAll a vals).defers = a.defers := updAll_defers _ _
  have hsz : (updAll a vals).tmps.size = a.tmps.size := updAll_size _ _
  have hob : ∀ (i : Nat) (o : Oper) (p : Option Nat × List Nat), ops[i]? = some o → plan[i]? = some p → (match p.1 with | none => RdK P ops St (updAll a vals) E p.2 o | some k => EfK P ops St (updAll a vals) E k p.2 o) := fun i o p ho hp => each.at_ i o p (by
    rw [Array.getElem?_toList]; exact ho) hp
  clear each
  generalize updAll a vals = AF at *
  refine region_inv hm he (fun l x W => l.size = ops.size ∧ Shut ops l ∧ x.defers = a.defers ∧ x.tmps.size = a.tmps.size ∧
    (∀ j, j < N → (∀ e ∈ E, e.1 ≠ j) → l.getD j false = true → ∀ t, dstOf ops j = some t → x.tmps[t]? = AF.tmps[t]?) ∧
    (∀ t, (∀ j, j < N → dstOf ops j = some t → l.getD j false = false) → x.tmps[t]? = a.tmps[t]?) ∧ St (E.map fun e => l.getD e.1 false) (E.map fun e => x.tmps.getD e.2 undef) W) ?_ (fun l a w h => h.1) ?_ ?_
  · refine ⟨by simp, ?_, rfl, rfl, fun j hj _ h => ?_, fun _ _ => rfl, ?_⟩
    · intro i hi
      rw [Array.getD_eq_getD_getElem?] at hi
      by_cases h : i < ops.size <;> simp [h] at hi
    · rw [Array.getD_eq_getD_getElem?] at h
      simp [hs0, hj] at h
    · have e : ∀ k, (Array.replicate ops.size false).getD k false = false := by
        intro k
        rw [Array.getD_eq_getD_getElem?]
        by_cases h : k < ops.size <;> simp [h]
      simp only [e]
      exact h0 _ (by simp)
  · rintro i o ho l x W ⟨hs, hS, x1, x2, x3, x4, x5⟩ hl hd
    have hio : i < ops.size := (Array.getElem?_eq_some_iff.1 ho).1
    have hil : i < l.size := by rw [hs]; exact hio
    have hi : i < N := by omega
    have hw := waits_ok ho hd
    have hS2 := hS.set hil hw
    have hs2 : (l.setIfInBounds i true).size = ops.size := by simpa using hs
    have hFx := putE_get AF x (by rw [hsz, x2]) E
    obtain ⟨p, hC⟩ := egk_at hH hi ho
    have hev : ∀ y ∈ o.op.operands, x.eval y = (putE AF E (E.map fun e => x.tmps.getD e.2 undef)).eval y := by
      intro y hy
      refine eval_same fun t ht => ?_
      subst ht
      rw [hFx]
      by_cases c1 : t ∈ E.map (·.2)
      · rw [if_pos c1]
      · rw [if_neg c1]
        rcases hC.looks t hy with c2 | c2
        · exact absurd c2 c1
        by_cases hc : ∃ j, j < N ∧ dstOf ops j = some t
        · obtain ⟨j, hj, hjt⟩ := hc
          refine x3 j hj (fun e heE hej => c1 ?_) (hw j (c2 j hj hjt)) t hjt
          obtain ⟨k, hk⟩ := List.getElem?_of_mem heE
          rcases (egk_eff hH hk).2.1 with ⟨q, -⟩ | ⟨q, -⟩
          · rw [hej, hjt] at q
            exact List.mem_map.2 ⟨e, heE, (Option.some.inj q).symm⟩
          · rw [hej, hjt] at q
            cases q
        · have hno : ∀ j, j < N → dstOf ops j ≠ some t := fun j hj e => hc ⟨j, hj, e⟩
          rw [x4 t (fun j hj e => absurd e (hno j hj)), hsame t (fun j hj _ => hno j hj)]
    have hex := execOp_congr o hC.sel hev
    have hneed : ∀ k ∈ p.2, (E.map fun e => l.getD e.1 false).getD k false = true := by
      intro k hk
      obtain ⟨e, he1, he2⟩ := hC.need k hk
      rw [List.getD_eq_getElem?_getD, List.getElem?_map, he1]
      exact shut_ancG hS hw he2
    have hO := hob i o p ho hC.plan
    have hgv : ∀ j want d, o.guard = some (j, want) → dstOf ops j = some d → x.tmps[d]? = AF.tmps[d]? := fun j want d h1 h2 => by
      obtain ⟨g1, g2⟩ := hC.guard j want h1
      have hj : j < N := by
        unfold dstOf at h2
        cases hq : ops[j]? with
        | none => rw [hq] at h2; cases h2
        | some q => have := (Array.getElem?_eq_some_iff.1 hq).1; omega
      exact x3 j hj g2 (hw j g1) d h2
    have hgt : GdT ops AF o → Region.wanted o (yielded ops x.tmps) = true := fun h => by
      rcases h with h | ⟨j, want, d, h1, h2, h3⟩
      · unfold Region.wanted; rw [h]
      · rw [want_y h1 h2 ((hgv j want d h1 h2).trans h3)]; cases want <;> rfl
    have hgs : GdS ops AF o → Region.wanted o (yielded ops x.tmps) = false := fun h => by
      obtain ⟨j, want, d, b, h1, h2, h3, h4⟩ := h
      rw [want_y h1 h2 ((hgv j want d h1 h2).trans h3)]; exact h4
    cases hdo : o.dst with
    | none =>
      have hdi : dstOf ops i = none := by unfold dstOf; rw [ho]; exact hdo
      obtain ⟨pk, nd⟩ := p
      cases pk with
      | none =>
        rcases hO with ⟨-, d', g1, -⟩ | ⟨-, d', v, g1, -⟩
        · rw [hdo] at g1; cases g1
        · rw [hdo] at g1; cases g1
      | some k =>
        obtain ⟨hGT, hO⟩ := hO
        rcases hO with ⟨d', g1, -⟩ | ⟨-, g3⟩
        · rw [hdo] at g1
          cases g1
        obtain ⟨ek, hk, hek⟩ := hC.yes k rfl
        have qk := egk_eff hH hk
        have hbk : (E.map fun e => l.getD e.1 false).getD k false = false := by
          rw [List.getD_eq_getElem?_getD, List.getElem?_map, hk]
          show l.getD ek.1 false = false
          rw [hek]
          exact getD_tf hl
        have hkl : k < E.length := (List.getElem?_eq_some_iff.1 hk).1
        have hm : ∀ m e, E[m]? = some e → e.1 = i → m = k := by
          intro m e hme h
          have q := (egk_eff hH hme).2.2
          have q' := qk.2.2
          rw [h] at q
          rw [hek, q] at q'
          exact Option.some.inj (Option.some.inj q')
        have q1 : (E.map fun e => (l.setIfInBounds i true).getD e.1 false) = (E.map fun e => l.getD e.1 false).set k true := by
          refine List.ext_getElem? fun m => ?_
          rw [List.getElem?_set, List.getElem?_map, List.getElem?_map]
          cases hE : E[m]? with
          | none =>
            have : E.length ≤ m := List.getElem?_eq_none_iff.1 hE
            rw [if_neg (by omega)]; rfl
          | some e =>
            simp only [Option.map_some]
            rw [getD_set1 hil]
            by_cases c : k = m
            · subst c
              rw [hk] at hE
              obtain rfl := Option.some.inj hE
              rw [if_pos hek.symm, if_pos rfl, if_pos (by simpa using hkl)]
            · rw [if_neg (fun h => c (hm m e hE h.symm).symm), if_neg c]
        unfold wpOp
        rw [ho]
        dsimp only
        rw [if_pos (hgt hGT)]
        refine Or.inl ?_
        have h1 := g3 _ _ W (by simp) (by simp) hneed hbk x5 (fun a' w' => a' = putE AF E (E.map fun e => x.tmps.getD e.2 undef) ∧ St ((E.map fun e => l.getD e.1 false).set k true) (E.map fun e => x.tmps.getD e.2 undef) w') (fun _ _ _ => False) (fun W' h => ⟨rfl, h⟩)
        have h2 : o.wp P x W (fun a' w' => a' = x ∧ St ((E.map fun e => l.getD e.1 false).set k true) (E.map fun e => x.tmps.getD e.2 undef) w') Q := by
          unfold Oper.wp at h1 ⊢
          rw [hex]
          exact upon_congr0 hdo h1
        refine Oper.wp_mono ?_ h2
        rintro a' w' ⟨rfl, hv⟩
        refine ⟨hs2, hS2, x1, x2, ?_, ?_, ?_⟩
        · intro j hj m1 hjl t hjt
          have hji : j ≠ i := fun c => by subst c; rw [hdi] at hjt; cases hjt
          rw [getD_set1 hil, if_neg (fun c => hji c.symm)] at hjl
          exact x3 j hj m1 hjl t hjt
        · intro t ht
          refine x4 t fun j hj hjt => ?_
          have := ht j hj hjt
          rw [getD_set1 hil] at this
          split at this
          · cases this
          · exact this
        · rw [q1]
          exact hv
    | some d =>
      have hd1 := hdo
      have hdi : dstOf ops i = some d := by unfold dstOf; rw [ho]; exact hd1
      have hput : GdT ops AF o → d < a.tmps.size → ∀ (C : Value → World → Prop), (∀ (K : Act → World → Prop) (Q : Exit → Act → World → Prop), (∀ v W', C v W' → K ((putE AF E (E.map fun e => x.tmps.getD e.2 undef)).put (some d) v) W') → o.wp P (putE AF E (E.map fun e => x.tmps.getD e.2 undef)) W K Q) → wpOp P ops Q i (fun a' w' => ∃ v, a' = x.put (some d) v ∧ C v w') x W := by
        intro hGT hdlt C hC2
        unfold wpOp
        rw [ho]
        dsimp only
        rw [if_pos (hgt hGT)]
        refine Or.inl ?_
        have h1 := hC2 (fun a' w' => ∃ v, a' = (putE AF E (E.map fun e => x.tmps.getD e.2 undef)).put (some d) v ∧ C v w') (fun _ _ _ => False) (fun v W' h => ⟨v, rfl, h⟩)
        unfold Oper.wp at h1 ⊢
        rw [hex]
        exact upon_congr hd1 (by rw [putE_size, hsz]; exact hdlt) h1
      have hgd : d < a.tmps.size → ∀ (v : Value) (t : Nat), (x.put (some d) v).tmps.getD t undef = if d = t then v else x.tmps.getD t undef := by
        intro hdlt v t
        rw [Array.getD_eq_getD_getElem?, put_at]
        by_cases e : d = t
        · rw [if_pos e, if_pos e, if_pos (by rw [x2]; exact hdlt)]; rfl
        · rw [if_neg e, if_neg e, Array.getD_eq_getD_getElem?]
      have hother : d < a.tmps.size → ∀ e ∈ E, e.1 ≠ i → d ≠ e.2 := by
        intro hdlt e heE hne c
        obtain ⟨k, hk⟩ := List.getElem?_of_mem heE
        have q := egk_eff hH hk
        rcases q.2.1 with ⟨q1, -⟩ | ⟨-, q2⟩
        · rcases hC.one e.1 q.1 hne with h | h
          · rw [q1] at h; cases h
          · exact h (by rw [q1, hdi, c])
        · exact absurd q2 (by rw [← c, ← hz]; exact Nat.not_le.2 hdlt)
      have hfr : d < a.tmps.size → ∀ v W', (p.1 = none → AF.tmps[d]? = some v) → St (E.map fun e => (l.setIfInBounds i true).getD e.1 false) (E.map fun e => (x.put (some d) v).tmps.getD e.2 undef) W' →
          ((l.setIfInBounds i true).size = ops.size ∧ Shut ops (l.setIfInBounds i true) ∧ (x.put (some d) v).defers = a.defers ∧ (x.put (some d) v).tmps.size = a.tmps.size ∧
    (∀ j, j < N → (∀ e ∈ E, e.1 ≠ j) → (l.setIfInBounds i true).getD j false = true → ∀ t, dstOf ops j = some t → (x.put (some d) v).tmps[t]? = AF.tmps[t]?) ∧
    (∀ t, (∀ j, j < N → dstOf ops j = some t → (l.setIfInBounds i true).getD j false = false) → (x.put (some d) v).tmps[t]? = a.tmps[t]?) ∧ St (E.map fun e => (l.setIfInBounds i true).getD e.1 false) (E.map fun e => (x.put (some d) v).tmps.getD e.2 undef) W') := by
        intro hdlt v W' hv hSt
        have hlt : d < x.tmps.size := by rw [x2]; exact hdlt
        refine ⟨hs2, hS2, x1, by simpa [Act.put] using x2, ?_, ?_, hSt⟩
        · intro j hj m1 hjl t hjt
          rw [put_at]
          by_cases e : d = t
          · subst e
            rw [if_pos rfl, if_pos hlt]
            have hji : j = i := Classical.byContradiction fun c => by
              rcases hC.one j hj c with h | h
              · rw [hjt] at h; cases h
              · exact h (by rw [hjt, hdi])
            subst hji
            refine (hv ?_).symm
            cases hp : p.1 with
            | none => rfl
            | some k => obtain ⟨e, he1, he2⟩ := hC.yes k hp; exact absurd he2 (m1 e (List.mem_of_getElem? he1))
          · rw [if_neg e]
            have hji : j ≠ i := fun c => by subst c; rw [hdi] at hjt; exact e (Option.some.inj hjt)
            rw [getD_set1 hil, if_neg (fun c => hji c.symm)] at hjl
            exact x3 j hj m1 hjl t hjt
        · intro t ht
          rw [put_at]
          have hdt : d ≠ t := fun c => by
            subst c
            have := ht i hi hdi
            rw [getD_set1 hil, if_pos rfl] at this
            cases this
          rw [if_neg hdt]
          refine x4 t fun j hj hjt => ?_
          have := ht j hj hjt
          rw [getD_set1 hil] at this
          split at this
          · cases this
          · exact this
      obtain ⟨pk, nd⟩ := p
      cases pk with
      | none =>
        rcases hO with ⟨hGS, d', g1, g2⟩ | ⟨hGT, d', v, g1, g2, g3⟩
        · rw [hd1] at g1
          obtain rfl : d = d' := Option.some.inj g1
          have hdlt : d < a.tmps.size := by
            have := (Array.getElem?_eq_some_iff.1 g2).1
            rw [hsz] at this
            exact this
          have hE := hC.no rfl
          unfold wpOp
          rw [ho]
          dsimp only
          rw [hgs hGS, hd1]
          refine hfr hdlt undef W (fun _ => g2) ?_
          have q1 : (E.map fun e => (l.setIfInBounds i true).getD e.1 false) = E.map fun e => l.getD e.1 false := List.map_congr_left fun e he => by
            rw [getD_set1 hil, if_neg (fun c => hE e he c.symm)]
          have q2 : (E.map fun e => (x.put (some d) undef).tmps.getD e.2 undef) = E.map fun e => x.tmps.getD e.2 undef := List.map_congr_left fun e he => by
            rw [hgd hdlt, if_neg (hother hdlt e he (hE e he))]
          rw [q1, q2]
          exact x5
        rw [hd1] at g1
        obtain rfl : d = d' := Option.some.inj g1
        have hdlt : d < a.tmps.size := by
          have := (Array.getElem?_eq_some_iff.1 g2).1
          rw [hsz] at this
          exact this
        have hE := hC.no rfl
        refine wpOp_mono ?_ (hput hGT hdlt (fun v' W' => v' = v ∧ St (E.map fun e => l.getD e.1 false) (E.map fun e => x.tmps.getD e.2 undef) W') (fun K Q hK => g3 _ _ W (by simp) (by simp) hneed x5 K Q (fun W' h => hK v W' ⟨rfl, h⟩)))
        rintro a' w' ⟨v', rfl, rfl, hv⟩
        refine hfr hdlt v' w' (fun _ => g2) ?_
        have q1 : (E.map fun e => (l.setIfInBounds i true).getD e.1 false) = E.map fun e => l.getD e.1 false := List.map_congr_left fun e he => by
          rw [getD_set1 hil, if_neg (fun c => hE e he c.symm)]
        have q2 : (E.map fun e => (x.put (some d) v').tmps.getD e.2 undef) = E.map fun e => x.tmps.getD e.2 undef := List.map_congr_left fun e he => by
          rw [hgd hdlt, if_neg (hother hdlt e he (hE e he))]
        rw [q1, q2]
        exact hv
      | some k =>
        obtain ⟨hGT, hO⟩ := hO
        rcases hO with ⟨d', g1, g3⟩ | ⟨g1, -⟩
        rotate_left
        · rw [hd1] at g1; cases g1
        rw [hd1] at g1
        obtain rfl : d = d' := Option.some.inj g1
        obtain ⟨ek, hk, hek⟩ := hC.yes k rfl
        have qk := egk_eff hH hk
        have hq : d = ek.2 ∧ ek.2 < z := by
          rcases qk.2.1 with ⟨q1, q2⟩ | ⟨q1, -⟩
          · rw [hek, hdi] at q1
            exact ⟨Option.some.inj q1, q2⟩
          · rw [hek, hdi] at q1
            cases q1
        have hde := hq.1
        have hdlt : d < a.tmps.size := by rw [hde, hz]; exact hq.2
        have hbk : (E.map fun e => l.getD e.1 false).getD k false = false := by
          rw [List.getD_eq_getElem?_getD, List.getElem?_map, hk]
          show l.getD ek.1 false = false
          rw [hek]
          exact getD_tf hl
        refine wpOp_mono ?_ (hput hGT hdlt (fun v' W' => St ((E.map fun e => l.getD e.1 false).set k true) ((E.map fun e => x.tmps.getD e.2 undef).set k v') W') (fun K Q hK => g3 _ _ W (by simp) (by simp) hneed hbk x5 K Q hK))
        rintro a' w' ⟨v', rfl, hv⟩
        refine hfr hdlt v' w' (fun c => by cases c) ?_
        have hkl : k < E.length := (List.getElem?_eq_some_iff.1 hk).1
        have hm : ∀ m e, E[m]? = some e → e.1 = i → m = k := by
          intro m e hme h
          have q := (egk_eff hH hme).2.2
          have q' := qk.2.2
          rw [h] at q
          rw [hek, q] at q'
          exact Option.some.inj (Option.some.inj q')
        have q1 : (E.map fun e => (l.setIfInBounds i true).getD e.1 false) = (E.map fun e => l.getD e.1 false).set k true := by
          refine List.ext_getElem? fun m => ?_
          rw [List.getElem?_set, List.getElem?_map, List.getElem?_map]
          cases hE : E[m]? with
          | none =>
            have : E.length ≤ m := List.getElem?_eq_none_iff.1 hE
            rw [if_neg (by omega)]; rfl
          | some e =>
            simp only [Option.map_some]
            rw [getD_set1 hil]
            by_cases c : k = m
            · subst c
              rw [hk] at hE
              obtain rfl := Option.some.inj hE
              rw [if_pos hek.symm, if_pos rfl, if_pos (by simpa using hkl)]
            · rw [if_neg (fun h => c (hm m e hE h.symm).symm), if_neg c]
        have q2 : (E.map fun e => (x.put (some d) v').tmps.getD e.2 undef) = (E.map fun e => x.tmps.getD e.2 undef).set k v' := by
          refine List.ext_getElem? fun m => ?_
          rw [List.getElem?_set, List.getElem?_map, List.getElem?_map]
          cases hE : E[m]? with
          | none =>
            have : E.length ≤ m := List.getElem?_eq_none_iff.1 hE
            rw [if_neg (by omega)]; rfl
          | some e =>
            simp only [Option.map_some]
            rw [hgd hdlt]
            by_cases c : k = m
            · subst c
              rw [hk] at hE
              obtain rfl := Option.some.inj hE
              rw [if_pos hde, if_pos rfl, if_pos (by simpa using hkl)]
            · have hne : e.1 ≠ i := fun h => c (hm m e hE h).symm
              rw [if_neg (hother hdlt e (List.mem_of_getElem? hE) hne), if_neg c]
        rw [q1, q2]
        exact hv
  · rintro l x W ⟨hs, hS, x1, x2, x3, x4, x5⟩ hall
    have hall' : ∀ j, j < N → l.getD j false = true := fun j hj => getD_tt (by omega) (hall j (by omega))
    have q1 : (E.map fun e => l.getD e.1 false) = E.map fun _ => true := List.map_congr_left fun e he => by
      obtain ⟨k, hk⟩ := List.getElem?_of_mem he
      exact hall' e.1 (egk_eff hH hk).1
    rw [q1] at x5
    have hFx := putE_get AF x (by rw [hsz, x2]) E
    have hx : x = putE AF E (E.map fun e => x.tmps.getD e.2 undef) := by
      refine act_ext (Array.ext_getElem? fun t => ?_) (by rw [putE_defers, hdf, x1])
      rw [hFx]
      by_cases c1 : t ∈ E.map (·.2)
      · rw [if_pos c1]
      · rw [if_neg c1]
        by_cases hc : ∃ j, j < N ∧ dstOf ops j = some t
        · obtain ⟨j, hj, hjt⟩ := hc
          refine x3 j hj (fun e heE hej => c1 ?_) (hall' j hj) t hjt
          obtain ⟨k, hk⟩ := List.getElem?_of_mem heE
          rcases (egk_eff hH hk).2.1 with ⟨q, -⟩ | ⟨q, -⟩
          · rw [hej, hjt] at q
            exact List.mem_map.2 ⟨e, heE, (Option.some.inj q).symm⟩
          · rw [hej, hjt] at q
            cases q
        · have hno : ∀ j, j < N → dstOf ops j ≠ some t := fun j hj e => hc ⟨j, hj, e⟩
          rw [x4 t (fun j hj e => absurd e (hno j hj)), hsame t (fun j hj _ => hno j hj)]
    have ht := done _ W (by simp) x5
    rw [← hx] at ht
    exact ht
end

end Go.Proofs.Ytladkknbkgomfaa
