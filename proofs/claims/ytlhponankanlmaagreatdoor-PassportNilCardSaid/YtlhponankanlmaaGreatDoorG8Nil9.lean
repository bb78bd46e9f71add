/-
  Loops: from the head of a loop to what stands behind it.
-/
import Derived.Test.YtlhponankanlmaaGreatDoorG7Nil9
import Derived.DataReads
import Derived.Deep.Slices
import Derived.Test.YtlhponankanlmaaGreatDoorG2Nil9
import Derived.Test.YtlhponankanlmaaGreatDoorG6Nil9
import Derived.Lib.AppendIntMem
set_option linter.unusedSimpArgs false
set_option linter.unusedVariables false
namespace Go.Proofs.YtlhponankanlmaaGreatDoor
namespace Sx
open Go.RowKit

section
variable {P : Program} {tb : Tb}
def isFgt : Wr → Bool
  | .ft _ => true
  | .new _ .gone => true
  | _ => false
theorem Rel.ft {C : Ctx} {N : Nat} {e : Env} {s : Sto} {a : Act} {w : World} (h : Rel C N e s a w) (n : Nat) : Rel C N e ((Wr.ft n).upd s) a w := by
  have hs : ∀ l, (∀ t, l ≠ .t t) → (Wr.ft n).upd s l = s l := fun l hl => by
    cases l with
    | t m => exact absurd rfl (hl m)
    | _ => rfl
  have hS : Sub s ((Wr.ft n).upd s) := ⟨fun _ h => h, fun _ h => h⟩
  refine ⟨h.sz, h.df, fun t v ht => ?_, h.hp.congr hs⟩
  by_cases e1 : t = n
  · subst e1; simp [Wr.upd, Wr.fn] at ht
  · simp only [Wr.upd, Wr.fn, if_neg e1, Option.getD_none] at ht
    obtain ⟨h1, h2, h3⟩ := h.tm t v ht
    exact ⟨h1, h2, h3.sub hS⟩
theorem fgt_rel {C : Ctx} {N : Nat} {e : Env} {a : Act} {w : World} : ∀ {fw : List Wr} {σ0 σ : St}, fw.all isFgt = true → σ0.apps fw = some σ → Rel C N e (look σ0) a w → Rel C N e (look σ) a w
  | [], σ0, σ, _, h, hR => by obtain rfl := Option.some.inj h; exact hR
  | x :: fw, σ0, σ, hf, h, hR => by
    simp only [List.all_cons, Bool.and_eq_true] at hf
    simp only [St.apps] at h
    split at h
    · rename_i hw
      refine fgt_rel hf.2 h ?_
      rw [look_app hw]
      cases x with
      | ft n => exact hR.ft n
      | new id b =>
        cases b with
        | gone => exact hR.agree (fun t => rfl) Sub.new (Agree.refl _ _) (hR.hp.gone id)
        | _ => cases hf.1
      | _ => cases hf.1
    · cases h
theorem fgt_keep : ∀ {fw : List Wr} {σ0 σ : St}, fw.all isFgt = true → σ0.apps fw = some σ → ∀ l v, look σ l = some v → v ≠ .bk .gone → look σ0 l = some v
  | [], σ0, σ, _, h, l, v, hv, _ => by obtain rfl := Option.some.inj h; exact hv
  | x :: fw, σ0, σ, hf, h, l, v, hv, hg => by
    simp only [List.all_cons, Bool.and_eq_true] at hf
    simp only [St.apps] at h
    split at h
    · rename_i hw
      have h1 := fgt_keep hf.2 h l v hv hg
      rw [look_app hw] at h1
      cases x with
      | ft n =>
        simp only [Wr.upd, Wr.fn] at h1
        cases l with
        | t m =>
          simp only [Wr.fn] at h1
          split at h1
          · cases h1
          · exact h1
        | _ => exact h1
      | new id b =>
        cases b with
        | gone =>
          cases l with
          | k i =>
            rw [gone_k] at h1
            split at h1
            · exact absurd (Option.some.inj h1).symm hg
            · exact h1
          | c i o =>
            rw [gone_c] at h1
            split at h1
            · cases h1
            · exact h1
          | _ => exact h1
        | _ => cases hf.1
      | _ => cases hf.1
    · cases h
def domT (d : List FamP) (n : Nat) : Bool := d.any fun p => match p with
  | .t m _ => Nat.beq m n
  | .row m _ _ _ _ => Nat.beq m n
  | _ => false
def domC (d : List FamP) (id off : Nat) : Bool := d.any fun p => match p with
  | .c i o _ => Nat.beq i id && Nat.beq o off
  | _ => false
def sameCv : Cv → Cv → Bool
  | .ptr i (.lit o), .ptr i' (.lit o') => Nat.beq i i' && Nat.beq o o'
  | _, _ => false
theorem sameCv_eq {c v : Cv} (h : sameCv c v = true) : v = c := by
  unfold sameCv at h
  split at h
  · simp only [Bool.and_eq_true] at h
    obtain rfl := beq_iff'.1 h.1
    obtain rfl := beq_iff'.1 h.2
    rfl
  · cases h
def sameAt (σ : St) (id off : Nat) (v : Cv) : Bool := match (alook σ.bk id).bind fun b => b.cell off with
  | some c => sameCv c v
  | none => false
theorem fns_mem {l : Loc} {z : Option LV} : ∀ {ws : List Wr}, fns ws l = some z → ∃ x ∈ ws, x.fn l = some z
  | [], h => by cases h
  | x :: ws, h => by
    simp only [fns] at h
    split at h
    · rename_i y hy
      obtain rfl := Option.some.inj h
      obtain ⟨x', h1, h2⟩ := fns_mem hy
      exact ⟨x', List.mem_cons_of_mem _ h1, h2⟩
    · exact ⟨x, List.mem_cons_self, h⟩
/-- A write that keeps what else is known. -/
def okWf (d : List FamP) (σ : St) : Wr → Bool
  | .tm n _ => domT d n || (alook σ.tm n).isNone
  | .ft n => domT d n || (alook σ.tm n).isNone
  | .cell id off v => (domC d id off || (alook σ.bk id).isNone) || sameAt σ id off v
  | .new id _ => (alook σ.bk id).isNone
  | .nm c => !memb σ.nl c
theorem domT_in {d : List FamP} {n : Nat} (h : domT d n = true) : inF d (.t n) := by
  obtain ⟨p, hp, h2⟩ := List.any_eq_true.1 h
  cases p with
  | t m l => obtain rfl := beq_iff'.1 h2; exact ⟨_, hp, ⟨fun _ => false, fun _ => 0, fun _ => 0, fun _ => 0, fun _ _ => undef⟩, 0, by simp [FamP.at_]⟩
  | c i o l => cases h2
  | row m _ _ _ _ => obtain rfl := beq_iff'.1 h2; exact ⟨_, hp, ⟨fun _ => false, fun _ => 0, fun _ => 0, fun _ => 0, fun _ _ => undef⟩, 0, by simp [FamP.at_]⟩
theorem domC_in {d : List FamP} {id off : Nat} (h : domC d id off = true) : inF d (.c id off) := by
  obtain ⟨p, hp, h2⟩ := List.any_eq_true.1 h
  cases p with
  | t m l => cases h2
  | c i o l =>
    simp only [Bool.and_eq_true] at h2
    obtain rfl := beq_iff'.1 h2.1
    obtain rfl := beq_iff'.1 h2.2
    exact ⟨_, hp, ⟨fun _ => false, fun _ => 0, fun _ => 0, fun _ => 0, fun _ _ => undef⟩, 0, by simp [FamP.at_]⟩
  | row m _ _ _ _ => cases h2
theorem keep_round {d : List FamP} {σ I y : St} {v : FVal} (hI : σ.apps (famW v 0 d) = some I) (hx : Ext I y) (ok : (newL I y).all (okWf d σ) = true) : KeepsF d σ y := by
  intro l z hz hd _
  obtain ⟨ws, hw, hl⟩ := newL_ext hx
  rw [look_apps hw, upds_fns]
  have hno : fns ws l = none ∨ fns ws l = some (some z) := by
    cases hf : fns ws l with
    | none => exact Or.inl rfl
    | some q =>
      obtain ⟨x, hx1, hx2⟩ := fns_mem hf
      have hok := List.all_eq_true.1 ok x (by rw [hl]; exact List.mem_reverse.2 hx1)
      have nT : ∀ {m}, l = .t m → domT d m = false := fun {m} e => by
        cases hc : domT d m with
        | false => rfl
        | true => exact absurd (e ▸ domT_in hc) hd
      have nC : ∀ {i o}, l = .c i o → domC d i o = false := fun {i o} e => by
        cases hc : domC d i o with
        | false => rfl
        | true => exact absurd (e ▸ domC_in hc) hd
      cases x with
      | tm n v' =>
        cases l with
        | t m =>
          obtain rfl : m = n := by simp only [Wr.fn] at hx2; split at hx2; assumption; cases hx2
          simp only [okWf, nT rfl, Bool.false_or, Option.isNone_iff_eq_none] at hok
          simp only [look, hok] at hz; cases hz
        | _ => cases hx2
      | ft n =>
        cases l with
        | t m =>
          obtain rfl : m = n := by simp only [Wr.fn] at hx2; split at hx2; assumption; cases hx2
          simp only [okWf, nT rfl, Bool.false_or, Option.isNone_iff_eq_none] at hok
          simp only [look, hok] at hz; cases hz
        | _ => cases hx2
      | cell id off v' =>
        cases l with
        | c i o =>
          obtain ⟨rfl, rfl⟩ : i = id ∧ o = off := by simp only [Wr.fn] at hx2; split at hx2; assumption; cases hx2
          simp only [okWf, nC rfl, Bool.false_or, Bool.or_eq_true, Option.isNone_iff_eq_none] at hok
          rcases hok with hok | hok
          · simp only [look, hok] at hz; cases hz
          · right
            unfold sameAt at hok
            simp only [look] at hz
            cases hb : alook σ.bk i with
            | none => rw [hb] at hz; cases hz
            | some b =>
              rw [hb] at hok hz
              simp only [Option.bind_some] at hok hz
              cases hcc : b.cell o with
              | none => rw [hcc] at hz; cases hz
              | some c =>
                rw [hcc] at hok hz
                obtain rfl := sameCv_eq hok
                simp only [Wr.fn, and_self, if_true] at hx2
                rw [← hx2, ← hz]; rfl
        | _ => cases hx2
      | new id b =>
        simp only [okWf, Option.isNone_iff_eq_none] at hok
        cases l with
        | k i =>
          obtain rfl : i = id := by simp only [Wr.fn] at hx2; split at hx2; assumption; cases hx2
          simp only [look, hok] at hz; cases hz
        | c i o =>
          obtain rfl : i = id := by simp only [Wr.fn] at hx2; split at hx2; assumption; cases hx2
          simp only [look, hok] at hz; cases hz
        | _ => cases hx2
      | nm c =>
        cases l with
        | n d' =>
          obtain rfl : d' = c := by simp only [Wr.fn] at hx2; split at hx2; assumption; cases hx2
          simp only [okWf, Bool.not_eq_true'] at hok
          simp only [look, hok] at hz; cases hz
        | _ => cases hx2
  dsimp only
  rcases hno with hno | hno
  · rw [hno, Option.getD_none, look_apps hI, fam_out hd, hz]
  · rw [hno]; rfl

/-- From the stack k and the state σ to one end. -/
structure SegOk (P : Program) (N : Nat) (σ : St) (k : List Kt) (o : Out) (x : SLeaf) : Prop where
  run : ∀ (C : Ctx) (e : Env) (a : Act) (w : World) (Q : Exit → Act → World → Prop), Rel C N e (look σ) a w → (∀ e' a' w', Rel C N e' (look x.2) a' w' → FPost P Q x.1 a' w') → Post P (fun o => kPost P Q k o) o a w
/-- From the stack k and the state σ to one of several ends. -/
structure SegTo (P : Program) (N : Nat) (σ : St) (k : List Kt) (o : Out) (Ψ : SLeaf → Prop) : Prop where
  run : ∀ (C : Ctx) (e : Env) (a : Act) (w : World) (Q : Exit → Act → World → Prop), Rel C N e (look σ) a w → (∀ y, Ψ y → ∀ e' a' w', Rel C N e' (look y.2) a' w' → FPost P Q y.1 a' w') → Post P (fun o => kPost P Q k o) o a w
theorem SegOk.to {N : Nat} {σ : St} {k : List Kt} {o : Out} {x : SLeaf} {Ψ : SLeaf → Prop} (h : SegOk P N σ k o x) (hx : Ψ x) : SegTo P N σ k o Ψ := ⟨fun C e a w Q hR hQ => h.run C e a w Q hR (hQ x hx)⟩
theorem SegOk.then_ {N : Nat} {σ σ' : St} {k k' : List Kt} {o : Out} {x : SLeaf} {Φ : SLeaf → Prop} (h : SegOk P N σ k o x) (hx : x = (.wait k', σ')) (h2 : SegTo P N σ' k' .normal Φ) : SegTo P N σ k o Φ := by
  subst hx
  exact ⟨fun C e a w Q hR hQ => h.run C e a w Q hR fun e' a' w' hR' => h2.run C e' a' w' Q hR' hQ⟩
theorem SegTo.each {N : Nat} {σ : St} {k rest : List Kt} {o : Out} {I : FVal → St} {F : FVal → Prop} {Φ : SLeaf → Prop} (h : SegTo P N σ k o fun y => ∃ v, F v ∧ y = (.wait rest, I v)) (h2 : ∀ v, F v → SegTo P N (I v) rest .normal Φ) : SegTo P N σ k o Φ :=
  ⟨fun C e a w Q hR hQ => h.run C e a w Q hR fun y hy e' a' w' hR' => by
    obtain ⟨v, hv, rfl⟩ := hy
    exact (h2 v hv).run C e' a' w' Q hR' hQ⟩
/-- THE LOOP. -/
theorem loop_to {N k : Nat} {body : Code} {rest : List Kt} (d : List FamP) {σ0 σ : St} {fw : List Wr} (hf : fw.all isFgt = true) (hσ : σ0.apps fw = some σ) (I : FVal → St) (hI : ∀ v, σ.apps (famW v 0 d) = some (I v)) (ok0 : okF d σ σ0 = true)
    (inv F : FVal → Prop) (μ : FVal → Nat) (h0 : inv (rvV d σ0))
    (hstep : ∀ v, inv v → ∃ o y, SegOk P N (I v) [.code body] .normal (.out o, y) ∧ Ext (I v) y ∧ okF d σ y = true ∧ (newL (I v) y).all (okWf d σ) = true ∧ ((o = .normal ∧ inv (rvV d y) ∧ μ (rvV d y) < μ v) ∨ (o = .exit k ∧ F (rvV d y)))) :
    SegTo P N σ0 (.again body :: .blk k :: rest) .normal (fun y => ∃ v, F v ∧ y = (.wait rest, I v)) := by
  refine ⟨fun C e a w Q hR hQ => ?_⟩
  have hRσ := fgt_rel hf hσ hR
  have hws := hRσ.ws
  have hpin : (∀ id p, C.pin id = some p → kn (look σ) id) ∧ ∀ c m, C.pinn c = some m → knn (look σ) c := ⟨fun id p h => (hRσ.hp.pin.1 id p h).2, fun c m h => (hRσ.hp.pin.2 c m h).2⟩
  have key : ∀ n v, inv v → μ v < n → ∀ e a w, Rel C N e (look (I v)) a w → LoopFrom P body (kPost P Q (.blk k :: rest)) a w := by
    intro n
    induction n with
    | zero => intro v _ h; omega
    | succ n ih =>
      intro v hi hμ e a w hR
      obtain ⟨o, y, h1, h2, h3, h4, h5⟩ := hstep v hi
      refine LoopFrom.once (h1.run C e a w (Exit.then (LoopFrom P body (kPost P Q (.blk k :: rest))) (kPost P Q (.blk k :: rest))) hR fun e' a' w' hR' => ?_)
      have hr := fam_rel hws (keep_round (hI v) h2 h4) h3 hpin hR'
      rcases h5 with ⟨rfl, k1, k2⟩ | ⟨rfl, k1⟩
      · exact ih _ k1 (by omega) _ _ _ (by rw [look_apps (hI _)]; exact hr)
      · show (if k = k then kPost P Q rest .normal a' w' else _)
        rw [if_pos rfl]
        exact hQ _ ⟨_, k1, rfl⟩ _ _ _ (by rw [look_apps (hI _)]; exact hr)
  have hr := fam_rel hws (fun l v hv _ hg => fgt_keep hf hσ l v hv hg) ok0 hpin hR
  exact key _ _ h0 (Nat.lt_succ_self _) _ _ _ (by rw [look_apps (hI _)]; exact hr)
/-- The loop, and what stands behind it. -/
theorem loop_then {N k : Nat} {body : Code} {rest : List Kt} {Φ : SLeaf → Prop} (d : List FamP) {σ : St} (I : FVal → St) (hI : ∀ v, σ.apps (famW v 0 d) = some (I v)) (ok0 : okF d σ σ = true)
    (inv F : FVal → Prop) (μ : FVal → Nat) (h0 : inv (rvV d σ))
    (hstep : ∀ v, inv v → ∃ o y, SegOk P N (I v) [.code body] .normal (.out o, y) ∧ Ext (I v) y ∧ okF d σ y = true ∧ (newL (I v) y).all (okWf d σ) = true ∧ ((o = .normal ∧ inv (rvV d y) ∧ μ (rvV d y) < μ v) ∨ (o = .exit k ∧ F (rvV d y))))
    (htail : ∀ v, F v → SegTo P N (I v) rest .normal Φ) : SegTo P N σ (.again body :: .blk k :: rest) .normal Φ :=
  (loop_to d (fw := []) rfl rfl I hI ok0 inv F μ h0 hstep).each htail
theorem seg_block {N k : Nat} {σ : St} {body : Code} {rest : List Kt} {Ψ : SLeaf → Prop} (h : SegTo P N σ (.again body :: .blk k :: rest) .normal Ψ) : SegTo P N σ (.code (.block k (.loop body)) :: rest) .normal Ψ :=
  ⟨fun C e a w Q hR hQ => wp_block (LoopFrom.wp (h.run C e a w Q hR hQ))⟩
theorem seg_peel {N : Nat} {σ σ1 : St} {body : Code} {K : List Kt} {Ψ : SLeaf → Prop} (h : SegOk P N σ [.code body] .normal (.out .normal, σ1)) (h2 : SegTo P N σ1 (.again body :: K) .normal Ψ) : SegTo P N σ (.again body :: K) .normal Ψ :=
  ⟨fun C e a w Q hR hQ => LoopFrom.once (h.run C e a w (Exit.then (LoopFrom P body (kPost P Q K)) (kPost P Q K)) hR fun e' a' w' hR' => h2.run C e' a' w' Q hR' hQ)⟩
theorem seg_out {N k : Nat} {σ σ1 : St} {body : Code} {rest : List Kt} (h : SegOk P N σ [.code body] .normal (.out (.exit k), σ1)) : SegOk P N σ (.again body :: .blk k :: rest) .normal (.wait rest, σ1) :=
  ⟨fun C e a w Q hR hQ => LoopFrom.once (h.run C e a w (Exit.then (LoopFrom P body (kPost P Q (.blk k :: rest))) (kPost P Q (.blk k :: rest))) hR fun e' a' w' hR' => by
    show (if k = k then kPost P Q rest .normal a' w' else _)
    rw [if_pos rfl]
    exact hQ e' a' w' hR')⟩
/-- A way, under cover: nothing looks into it by itself. -/
structure AtG {α : Type} (T : Tree α) (x : α) : Prop where
  out : T.At x
theorem seg_evC {wf : List FuncId} {call : CallF} (hT : TbOk P tb) (hm : P.follows .mixedOrders = true) (hc : CallFOk P call) {N fuel : Nat} {c : Code} {σ : St} {y : Leaf} {T : Tree Leaf} (hE : T = evC tb wf call N [] fuel c σ) (hA : AtG T y) : SegOk P N σ [.code c] .normal (.out y.1, y.2) ∧ Ext σ y.2 := by
  have h : (evC tb wf call N [] fuel c σ).At y := hE ▸ hA.out
  exact ⟨⟨fun C e a w Q hR hQ => evC_ok hT hm hc fuel c σ y h C e a w Q hR hQ⟩, evC_every.at_ h⟩
theorem seg_evS {wf : List FuncId} {call : CallF} (hT : TbOk P tb) (hm : P.follows .mixedOrders = true) (hc : CallFOk P call) {N cf fuel : Nat} {stops : List Nat} {k : List Kt} {o : Out} {σ : St} {y : SLeaf} {T : Tree SLeaf} (hE : T = evS tb wf call N cf stops fuel k o σ) (hA : AtG T y) : SegOk P N σ k o y ∧ Ext σ y.2 := by
  have h : (evS tb wf call N cf stops fuel k o σ).At y := hE ▸ hA.out
  exact ⟨⟨evS_ok hT hm hc fuel k o σ y h⟩, evS_every.at_ h⟩

/-! One way of a tree: the tests along it, and its end. -/
def selW {α : Type} : List Bool → Tree α → Option (List Bool × α)
  | p, .must b t => (selW p t).map fun r => (b :: r.1, r.2)
  | true :: p, .br b t _ => (selW p t).map fun r => (b :: r.1, r.2)
  | false :: p, .br b _ f => (selW p f).map fun r => ((!b) :: r.1, r.2)
  | [], .leaf x => some ([], x)
  | _, _ => none
theorem selW_at {α : Type} : ∀ {T : Tree α} {p : List Bool} {cs : List Bool} {x : α}, selW p T = some (cs, x) → (∀ c ∈ cs, c = true) → T.At x
  | .must b t, p, cs, x, h, hc => by
    have h' : (selW p t).map (fun r => (b :: r.1, r.2)) = some (cs, x) := by cases p with
      | nil => exact h
      | cons q p => cases q <;> exact h
    obtain ⟨r, hr, he⟩ := Option.map_eq_some_iff.1 h'
    obtain ⟨l, z⟩ := r
    obtain ⟨rfl, rfl⟩ := Prod.mk.inj he
    exact ⟨hc _ List.mem_cons_self, selW_at hr fun c h => hc c (List.mem_cons_of_mem _ h)⟩
  | .br b t f, p, cs, x, h, hc => by
    cases p with
    | nil => cases h
    | cons q p =>
      cases q with
      | true =>
        obtain ⟨r, hr, he⟩ := Option.map_eq_some_iff.1 (show (selW p t).map (fun r => (b :: r.1, r.2)) = some (cs, x) from h)
        obtain ⟨l, z⟩ := r
        obtain ⟨rfl, rfl⟩ := Prod.mk.inj he
        exact Or.inl ⟨hc _ List.mem_cons_self, selW_at hr fun c h => hc c (List.mem_cons_of_mem _ h)⟩
      | false =>
        obtain ⟨r, hr, he⟩ := Option.map_eq_some_iff.1 (show (selW p f).map (fun r => ((!b) :: r.1, r.2)) = some (cs, x) from h)
        obtain ⟨l, z⟩ := r
        obtain ⟨rfl, rfl⟩ := Prod.mk.inj he
        exact Or.inr ⟨by have := hc _ List.mem_cons_self; simpa using this, selW_at hr fun c h => hc c (List.mem_cons_of_mem _ h)⟩
  | .leaf y, p, cs, x, h, hc => by
    cases p with
    | nil => obtain ⟨_, rfl⟩ := Prod.mk.inj (Option.some.inj h); rfl
    | cons q p => cases q <;> cases h
  | .fail, p, cs, x, h, hc => by
    cases p with
    | nil => cases h
    | cons q p => cases q <;> cases h
theorem selW_G {α : Type} {T : Tree α} {p : List Bool} {cs : List Bool} {x : α} (h : selW p T = some (cs, x)) (hc : ∀ c ∈ cs, c = true) : AtG T x := ⟨selW_at h hc⟩
/-- A loop that is stopped at: its body, its number, what stands behind it. -/
structure Stp where
  body : Code
  k : Nat
  rest : List Kt
  st : St
def stpOf : SLeaf → Option Stp
  | (.wait (.code (.block k (.loop b)) :: rest), σ) => some ⟨b, k, rest, σ⟩
  | _ => none
theorem stpOf_at {x : SLeaf} {s : Stp} (h : stpOf x = some s) : x = (.wait (.code (.block s.k (.loop s.body)) :: s.rest), s.st) := by
  unfold stpOf at h
  split at h
  · obtain rfl := Option.some.inj h; rfl
  · cases h
/-- A way of a round that goes on, or out. -/
def wayR (d : List FamP) (σ I : St) (o : Out) (T : Tree Leaf) (p : List Bool) : Option (List Bool × St) := match selW p T with
  | some (cs, (o', y)) => match outEq o o' && (okF d σ y && (newL I y).all (okWf d σ)) with
    | true => some (cs, y)
    | false => none
  | none => none
theorem wayR_at {d : List FamP} {σ I y : St} {o : Out} {T : Tree Leaf} {p cs : List Bool} (h : wayR d σ I o T p = some (cs, y)) : ((∀ c ∈ cs, c = true) → AtG T (o, y)) ∧ okF d σ y = true ∧ (newL I y).all (okWf d σ) = true := by
  unfold wayR at h
  split at h
  · rename_i cs' o' y' hs
    split at h
    · rename_i hb
      simp only [Bool.and_eq_true] at hb
      obtain ⟨h1, h2, h3⟩ := hb
      obtain rfl := outEq_eq h1
      obtain ⟨rfl, rfl⟩ := Prod.mk.inj (Option.some.inj h)
      exact ⟨fun hc => ⟨selW_at hs hc⟩, h2, h3⟩
    · cases h
  · cases h
/-- A law, from what its code comes to. -/
theorem seg_true {f : FuncId} {fn : Func} {c : Code} (hT : TbOk P tb) (hf : P.funcs[f]? = some fn) (hb : fn.body = some c) {args : List Sv} {σ : St} {vs : List Nat} (hle : args.length ≤ fn.ntmps)
    (h : SegTo P fn.ntmps (enterSt (withVr σ vs) args) [.code c] .normal fun y => (y.1 = .out .normal ∨ y.1 = .out .ret) ∧ ∃ l, evRes tb y.2 fn.results.toList = some (.one (.b true l)))
    {e : Env} {w : World} (hp : Hp (ctx0 w) e (look σ) w) (ha : ∀ x ∈ args, x.sc (look σ)) : Calls P f (args.map (·.den e)).toArray w fun en w' => en = .returned (.bool true) ∧ Below w.heap.size w w' := by
  have hR := enter_rel (σ := withVr σ vs) (by rw [look_withVr]; exact hp) (by rw [look_withVr]; exact ha) hle
  refine calls_of_wp hf hb ?_
  refine h.run (ctx0 w) e _ w (bodyPost P fn _) hR fun y hy e' a' w' hR' => ?_
  obtain ⟨ho, l, hv⟩ := hy
  obtain ⟨r1, _⟩ := evRes_run hT hR' hv
  have hB : Below w.heap.size w w' := ⟨hR'.hp.fr.os, hR'.hp.fr.tape, hR'.hp.fr.output, hR'.hp.fr.size, fun k hk => hR'.hp.fr.block k hk (by show ¬ w.heap.size ≤ k; omega)⟩
  have hend : ∃ v', (results fn a'.tmps).run P w' = .ok v' w' ∧ Ending.returned v' = .returned (.bool true) ∧ Below w.heap.size w w' := ⟨_, r1, rfl, hB⟩
  obtain ⟨f', σ'⟩ := y
  rcases ho with ho | ho
  · simp only at ho; subst ho
    exact ⟨hR'.df, hend⟩
  · simp only at ho; subst ho
    exact ⟨hR'.df, hend⟩
/-- A row that a caller hands over: it is only read. -/
def stO (T m : Nat) (f : Nat → Value) : St := { st0 with bk := [(0, .oq T true m f none)], nx := 1 }
def envO (a : Addr) : Env := ⟨fun _ => (a.block, a.off), fun _ => 0⟩
theorem hpO {w : World} {a : Addr} {T m : Nat} {f : Nat → Value} (hb : a.block < w.heap.size) (hc : ∀ off, off < m → w.cell? ⟨a.block, a.off + off, none⟩ = some (f off)) (hG : Glob0 w := by exact glob0 w) : Hp (ctx0 w) (envO a) (look (stO T m f)) w := by
  have k0 : ∀ i b, look (stO T m f) (.k i) = some (.bk b) → i = 0 ∧ b = .oq T true m f none := by
    intro i b h
    simp only [look, stO, alook] at h
    cases hi : Nat.beq 0 i with
    | true =>
      rw [hi] at h
      exact ⟨(beq_iff'.1 hi).symm, by simpa [Blk.info] using h.symm⟩
    | false => rw [hi] at h; cases h
  refine ⟨fun _ h => h, ?_, ?_, ?_, ?_, ?_, ?_, ?_, ⟨fun _ _ h => (by cases h), fun _ _ h => (by cases h)⟩, ⟨rfl, rfl, rfl, Nat.le_refl _, fun _ _ _ => rfl, hG⟩⟩
  · intro id off v h
    simp only [look, stO, alook] at h
    cases hi : Nat.beq 0 id with
    | true => rw [hi] at h; cases h
    | false => rw [hi] at h; cases h
  · intro id t n cp h; obtain ⟨_, h⟩ := k0 _ _ h; cases h
  · intro id t ro n g cp h off ho
    obtain ⟨rfl, h⟩ := k0 _ _ h
    cases h
    exact ⟨hc off ho, fun h => by cases h⟩
  · intro id b c es h hcp; obtain ⟨_, rfl⟩ := k0 _ _ h; cases hcp
  · intro i i' b b' h _ hr; obtain ⟨_, rfl⟩ := k0 _ _ h; cases hr
  · intro i b h _; exact hb
  · intro i b h hr; obtain ⟨_, rfl⟩ := k0 _ _ h; cases hr
theorem rvV_i (d : List FamP) (y : St) (j : Nat) : (rvV d y).i j = rvI d y j := rfl
theorem rvV_b (d : List FamP) (y : St) (j : Nat) : (rvV d y).b j = rvB d y j := rfl
theorem apps_nil (σ : St) : σ.apps [] = some σ := rfl
theorem famW_same {v v' : FVal} : ∀ {d : List FamP} {j : Nat}, (∀ (i : Nat) (p : FamP), d[i]? = some p → p.ws v (j + i) = p.ws v' (j + i)) → famW v j d = famW v' j d
  | [], _, _ => rfl
  | p :: d, j, h => by
    have h0 := h 0 p rfl
    rw [Nat.add_zero] at h0
    have h1 := famW_same (v := v) (v' := v') (d := d) (j := j + 1) fun i q hq => by
      have := h (i + 1) q (by simpa using hq)
      rwa [show j + (i + 1) = j + 1 + i by omega] at this
    rw [famW, famW, h0, h1]
end
end Sx
end Go.Proofs.YtlhponankanlmaaGreatDoor

/-
  A slice that is handed over: its cells.
-/
set_option linter.unusedSimpArgs false
set_option linter.unusedVariables false
namespace Go.Proofs.YtlhponankanlmaaGreatDoor
namespace Sx
open Go.RowKit

section
variable {P : Program} {tb : Tb} {H : Type} {enc : TypeId × Value → H} {w : World} {base : Nat} {spare : Nat → Bool} {held : Bool}
theorem cell_in {a : Addr} {v : Value} (h : w.cell? a = some v) : a.block < w.heap.size := by
  rcases Nat.lt_or_ge a.block w.heap.size with h1 | h1
  · exact h1
  · simp [World.cell?, Array.getElem?_eq_none h1] at h
/-- The cells of element j. -/
def elAt (f : Nat → Value) (sz j : Nat) : List Value := (List.range sz).map fun o => f (j * sz + o)
theorem open_rows (hT : TbOk P tb) {t te : TypeId} {i : TypeInfo} {ls : List Lf} {x : DataW H × List MemPlace} {v : Value} (ht : tb.und t = some (.slice te)) (hi : tb.info te = some i) (hl : leaves tb 20 te = some ls) (hsz : 0 < i.size) {n : Nat} (h : DataW.trod enc P w base spare held n t [v] = some x) :
    (∃ a c, v = .slice a 0 c) ∨ ∃ (b off len cap : Nat) (f : Nat → Value), v = .slice (some ⟨b, off, none⟩) len cap ∧ 0 < len ∧ len ≤ maxLen ∧ b < w.heap.size ∧ (∀ k, k < len * i.size → w.cell? ⟨b, off + k, none⟩ = some (f k)) ∧ ∀ j, j < len → All2 Lf.ok ls (elAt f i.size j) := by
  rcases Go.Deep.open_slice (hT.und ht) h with ⟨hcs, _⟩ | ⟨a, len, cap, m, n', D, Pl, hcs, hb, hle, hm, hmm, hx, hc⟩
  · simp only [List.cons.injEq, and_true] at hcs
    exact Or.inl ⟨none, 0, hcs⟩
  · simp only [List.cons.injEq, and_true] at hcs
    rcases Nat.eq_zero_or_pos len with h0 | h0
    · subst h0; exact Or.inl ⟨some a, cap, hcs⟩
    right
    have hlm : len ≤ m := by rw [hmm]; split <;> omega
    rw [cellsOf_info hT hi] at hc
    have each : ∀ j, j < len → ∃ cs', cs'.length = i.size ∧ (∀ o, o < i.size → w.cell? (a.add (j * i.size + o)) = cs'[o]?) ∧ All2 Lf.ok ls cs' := by
      intro j hj
      obtain ⟨cs', h1, h2⟩ := hc j (by omega)
      obtain ⟨_, q1, q2⟩ := World.cells?_some h1
      refine ⟨cs', q1, fun o ho => ?_, leaves_ok hT 20 te ls cs' n' _ hl h2⟩
      have := q2 o ho
      rwa [Go.Deep.add_add] at this
    have all : ∀ k, k < len * i.size → ∃ v, w.cell? (a.add k) = some v := by
      intro k hk
      obtain ⟨cs', q1, q2, _⟩ := each (k / i.size) (Nat.div_lt_of_lt_mul (by rw [Nat.mul_comm]; exact hk))
      have hmod : k % i.size < i.size := Nat.mod_lt _ hsz
      have := q2 (k % i.size) hmod
      rw [show k / i.size * i.size + k % i.size = k by rw [Nat.mul_comm]; exact Nat.div_add_mod k i.size] at this
      rw [this]
      exact ⟨_, List.getElem?_eq_getElem (by omega)⟩
    obtain ⟨v0, hv0⟩ := all 0 (Nat.mul_pos h0 hsz)
    obtain ⟨b, off, spot⟩ := a
    have hspot : spot = none := by simpa [Addr.add] using World.cell?_spot hv0
    subst hspot
    have hadd : ∀ j, ((⟨b, off, none⟩ : Addr).add j) = ⟨b, off + j, none⟩ := fun j => by
      unfold Addr.add
      by_cases e : j = 0
      · subst e; simp
      · simp [e]
    refine ⟨b, off, len, cap, fun k => (w.cell? ⟨b, off + k, none⟩).getD undef, hcs, h0, by omega, ?_, fun k hk => ?_, fun j hj => ?_⟩
    · rw [hadd] at hv0; exact cell_in hv0
    · obtain ⟨v, hv⟩ := all k hk
      rw [hadd] at hv
      show _ = some ((w.cell? ⟨b, off + k, none⟩).getD undef)
      rw [hv]; rfl
    · obtain ⟨cs', q1, q2, q3⟩ := each j hj
      have : elAt (fun k => (w.cell? ⟨b, off + k, none⟩).getD undef) i.size j = cs' := by
        apply List.ext_getElem?
        intro o
        unfold elAt
        by_cases ho : o < i.size
        · rw [List.getElem?_map, List.getElem?_range ho]
          have h2 := q2 o ho
          rw [hadd] at h2
          rw [Option.map_some]
          show some ((w.cell? ⟨b, off + (j * i.size + o), none⟩).getD undef) = _
          rw [h2, List.getElem?_eq_getElem (by omega)]
          rfl
        · rw [List.getElem?_eq_none (by simp; omega), List.getElem?_eq_none (by omega)]
      rw [this]; exact q3
theorem all2_isV : ∀ {ls : List Lf} {cs : List Value}, All2 Lf.ok ls cs → ∀ o, o < ls.length → (lfAt ls o).isV (cs.getD o undef) = true
  | _, _, .nil, o, h => by simp at h
  | l :: ls, c :: cs, .cons hc h, o, ho => by
    cases o with
    | zero =>
      show l.isV c = true
      cases l with
      | b => obtain ⟨b, rfl⟩ := hc; rfl
      | i k => obtain ⟨n, rfl, _⟩ := hc; simp [Lf.isV]
    | succ o =>
      have := all2_isV h o (by simpa using ho)
      simpa [lfAt] using this
/-- What is demanded where an element is read. -/
theorem rows_isV {f : Nat → Value} {ls : List Lf} {sz j : Nat} (h : All2 Lf.ok ls (elAt f sz j)) (hsz : ls.length = sz) : ((List.range sz).all fun o => (lfAt ls o).isV (f (0 + j * sz + o))) = true := by
  rw [List.all_eq_true]
  intro o ho
  have ho' : o < sz := List.mem_range.1 ho
  have := all2_isV h o (by omega)
  unfold elAt at this
  rw [List.getD_eq_getElem?_getD, List.getElem?_map, List.getElem?_range ho'] at this
  rw [Nat.zero_add]
  simpa using this
end
end Sx
end Go.Proofs.YtlhponankanlmaaGreatDoor

/-
  What is known of a function, carried into a caller's state: from facts about memory; a new row that is only read; a block with cells that nobody looks at.
-/
set_option linter.unusedSimpArgs false
set_option linter.unusedVariables false
namespace Go.Proofs.YtlhponankanlmaaGreatDoor
namespace Sx
open Go.RowKit

section
variable {P : Program} {tb : Tb}
/-- A function that hands back a value and leaves alone what was there, by what the state says of memory. -/
theorem FunOk.of_w {f : FuncId} {args : List Sv} {v : Sv} {σ : St} (hv : v.freeB = true) (h : ∀ (C : Ctx) (e : Env) (w : World), Hp C e (look σ) w → (∀ x ∈ args, x.sc (look σ)) → Calls P f (args.map (·.den e)).toArray w fun en w' => en = .returned (v.den e) ∧ Below w.heap.size w w') : FunOk P f args σ v σ := by
  refine ⟨fun C e w hp ha => ?_, KeepL.refl _⟩
  refine (h C e w hp ha).mono fun en w' => ?_
  rintro ⟨rfl, hb⟩
  exact ⟨e, Agree.refl _ _, hp.keep hb, rfl, Sv.free_sc hv _⟩
/-- A state that knows one more row, which is only read, and one more number. -/
def addOq (σ : St) (t : TypeId) (m : Nat) (f : Nat → Value) : St := { σ with bk := (σ.nx, .oq t true m f none) :: σ.bk, nx := σ.nx + 1, nl := σ.nn :: σ.nl, nn := σ.nn + 1 }
theorem addOq_agree {σ : St} {e : Env} {p : Nat × Nat} {m : Nat} (h1 : alook σ.bk σ.nx = none) (h2 : memb σ.nl σ.nn = false) : Agree (look σ) e (addEnv σ e p m) := addRo_agree h1 h2
theorem addOq_sub (σ : St) (t : TypeId) (m : Nat) (f : Nat → Value) : Sub (look σ) (look (addOq σ t m f)) := by
  refine ⟨fun id hid => ?_, fun c hc => ?_⟩
  · rw [kn_look] at hid ⊢
    simp only [addOq, alook]
    split
    · rfl
    · exact hid
  · rw [knn_look] at hc ⊢
    simp only [addOq, memb]
    split
    · rfl
    · exact hc
theorem Hp.addOq {C : Ctx} {e : Env} {σ : St} {w : World} (h : Hp C e (look σ) w) (h1 : alook σ.bk σ.nx = none) (h2 : memb σ.nl σ.nn = false) {t : TypeId} {m : Nat} {f : Nat → Value} {p : Nat × Nat} {k : Nat} (hp : p.1 < w.heap.size)
    (hnew : ∀ id b, look σ (.k id) = some (.bk b) → b.live = true → (e.pl id).1 ≠ p.1) (hc : ∀ j, j < m → w.cell? ⟨p.1, p.2 + j, none⟩ = some (f j)) : Hp C (addEnv σ e p k) (look (Sx.addOq σ t m f)) w := by
  have hA := addOq_agree (e := e) (p := p) (m := k) h1 h2
  have hS := addOq_sub σ t m f
  have kold : ∀ id, id ≠ σ.nx → look (Sx.addOq σ t m f) (.k id) = look σ (.k id) := fun id hid => by
    simp only [look, Sx.addOq, alook]
    rw [beq_ff.2 (Ne.symm hid)]
  have cold : ∀ id off, id ≠ σ.nx → look (Sx.addOq σ t m f) (.c id off) = look σ (.c id off) := fun id off hid => by
    simp only [look, Sx.addOq, alook]
    rw [beq_ff.2 (Ne.symm hid)]
  have knew : look (Sx.addOq σ t m f) (.k σ.nx) = some (.bk (.oq t true m f none)) := by
    simp only [look, Sx.addOq, alook, Nat.beq_refl]; rfl
  have cnew : ∀ off, look (Sx.addOq σ t m f) (.c σ.nx off) = none := fun off => by
    simp only [look, Sx.addOq, alook, Nat.beq_refl]; rfl
  have ad : ∀ id off, id ≠ σ.nx → (addEnv σ e p k).ad id off = e.ad id off := fun id off hid => by
    unfold Env.ad; show (⟨(if id = σ.nx then p else e.pl id).1, _, none⟩ : Addr) = _
    simp only [addEnv, if_neg hid]
  have pl : ∀ id, id ≠ σ.nx → (addEnv σ e p k).pl id = e.pl id := fun id hid => if_neg hid
  have pln : (addEnv σ e p k).pl σ.nx = p := if_pos rfl
  refine ⟨h.new, ?_, ?_, ?_, ?_, ?_, ?_, ?_, h.pin.mono hA hS, h.fr⟩
  · intro id off v hv
    by_cases hid : id = σ.nx
    · subst hid; rw [cnew] at hv; cases hv
    · rw [cold id off hid] at hv
      obtain ⟨q1, ⟨t', ro, n, cp, q2, q3⟩, q4⟩ := h.cl id off v hv
      refine ⟨q1.sub hS, ⟨t', ro, n, cp, by rw [kold id hid]; exact q2, q3⟩, ?_⟩
      rw [ad id off hid, Cv.den_agree hA q1]
      exact q4
  · intro id t' n cp hb off ho
    by_cases hid : id = σ.nx
    · subst hid; rw [knew] at hb; cases hb
    · rw [kold id hid] at hb
      rw [ad id off hid]
      exact h.ar id t' n cp hb off ho
  · intro id t' ro n f' cp hb off ho
    by_cases hid : id = σ.nx
    · subst hid
      rw [knew] at hb
      cases hb
      refine ⟨?_, fun h => by cases h⟩
      unfold Env.ad
      rw [pln]
      exact hc off ho
    · rw [kold id hid] at hb
      rw [ad id off hid]
      exact h.oq id t' ro n f' cp hb off ho
  · intro id b c es hb hcp
    by_cases hid : id = σ.nx
    · subst hid
      rw [knew] at hb
      obtain rfl : BI.oq t true m f none = b := by simpa using hb
      cases hcp
    · rw [kold id hid] at hb
      obtain ⟨q1, q2, cs', q3, q4, q5⟩ := h.cp id b c es hb hcp
      refine ⟨hS.2 c q1, by rw [pl id hid]; exact q2, cs', by rw [pl id hid]; exact q3, by rw [q4, hA.2 c q1], q5⟩
  · intro id id' b b' hb hb' hr hl hne
    by_cases hid : id = σ.nx
    · subst hid
      rw [knew] at hb
      obtain rfl : BI.oq t true m f none = b := by simpa using hb
      cases hr
    · rw [kold id hid] at hb
      rw [pl id hid]
      by_cases hid' : id' = σ.nx
      · subst hid'
        rw [pln]
        exact hnew id b hb (by cases b <;> first | rfl | cases hr)
      · rw [kold id' hid'] at hb'
        rw [pl id' hid']
        exact h.inj id id' b b' hb hb' hr hl hne
  · intro id b hb hl
    by_cases hid : id = σ.nx
    · subst hid; rw [pln]; exact hp
    · rw [kold id hid] at hb
      rw [pl id hid]
      exact h.lt id b hb hl
  · intro id b hb hr
    by_cases hid : id = σ.nx
    · subst hid
      rw [knew] at hb
      obtain rfl : BI.oq t true m f none = b := by simpa using hb
      cases hr
    · rw [kold id hid] at hb
      rw [pl id hid]
      exact h.mu id b hb hr
/-- A new row, and no error. -/
def NewOq (w w' : World) (n m : Nat) (f : Nat → Value) (en : Ending) : Prop := ∃ b off cap, en = .returned (.tuple #[.slice (some ⟨b, off, none⟩) n cap, .int .i64 0]) ∧ w.heap.size ≤ b ∧ b < w'.heap.size ∧ (∀ j, j < m → w'.cell? ⟨b, off + j, none⟩ = some (f j)) ∧ Below w.heap.size w w'
def oqSv (σ : St) (n : Nat) : Sv := .tup [(false, [.slc σ.nx (.lit 0) (.opq n) (.nam σ.nn)]), (false, [.i .i64 0 true])]
theorem FunOk.of_row {f : FuncId} {args : List Sv} {σ : St} {t : TypeId} {n m : Nat} {g : Nat → Value} (h1 : alook σ.bk σ.nx = none) (h2 : memb σ.nl σ.nn = false)
    (h : ∀ (C : Ctx) (e : Env) (w : World), Hp C e (look σ) w → (∀ x ∈ args, x.sc (look σ)) → Calls P f (args.map (·.den e)).toArray w fun en w' => NewOq w w' n m g en) : FunOk P f args σ (oqSv σ n) (addOq σ t m g) := by
  refine ⟨fun C e w hp ha => ?_, fun id off hk _ => ?_⟩
  case refine_2 =>
    have hne : id ≠ σ.nx := fun e => by rw [kn_look, e, h1] at hk; cases hk
    simp only [Sx.addOq, look, alook]
    rw [beq_ff.2 (Ne.symm hne)]
  refine (h C e w hp ha).mono fun en w' => ?_
  rintro ⟨b, off, cap, rfl, hlo, hhi, hcell, hb⟩
  refine ⟨addEnv σ e (b, off) cap, addOq_agree h1 h2, (hp.keep hb).addOq h1 h2 hhi (fun id bi hbi hl => ?_) hcell, ?_, ?_⟩
  · have := hp.lt id bi hbi hl
    show (e.pl id).1 ≠ b
    omega
  · have e1 : (addEnv σ e (b, off) cap).pl σ.nx = (b, off) := if_pos rfl
    have e2 : (addEnv σ e (b, off) cap).nm σ.nn = cap := if_pos rfl
    have e3 : (addEnv σ e (b, off) cap).ad σ.nx 0 = ⟨b, off, none⟩ := by unfold Env.ad; rw [e1]; rfl
    show Ending.returned (.tuple #[.slice (some ⟨b, off, none⟩) n cap, .int .i64 0]) = Ending.returned (.tuple #[.slice (some ((addEnv σ e (b, off) cap).ad σ.nx 0)) n ((addEnv σ e (b, off) cap).nm σ.nn), .int .i64 0])
    rw [e2, e3]
  · intro p hp
    simp only [List.mem_cons, List.not_mem_nil, or_false] at hp
    rcases hp with rfl | rfl
    · intro c hc
      obtain rfl : c = _ := by simpa using hc
      refine ⟨?_, trivial, trivial, ?_⟩
      · unfold kn; simp only [look, Sx.addOq, alook, Nat.beq_refl]; rfl
      · show knn _ _; unfold knn; simp only [look, Sx.addOq, memb, Nat.beq_refl]; rfl
    · intro c hc
      obtain rfl : c = _ := by simpa using hc
      exact trivial

/-- One block that may be written. -/
def st1 (T : TypeId) (cs : List Cv) : St := { tm := [], bk := [(1, .ar T false cs none)], nx := 2, nl := [], nn := 0, lg := [], vr := [] }
/-- A function that writes into one block, some cells of which it never looks at. -/
theorem FunOk.renU {f : FuncId} {args0 args : List Sv} {T : TypeId} {cs1 csN : List Cv} {σ : St} {v : Sv} {id : Nat}
    (H : ∀ e : Env, ∃ (cs : List Cv) (σ0' : St) (cs' : List Cv), FunOk P f args0 (st1 T cs) v σ0' ∧ alook σ0'.bk 1 = some (.ar T false cs' none) ∧ cs.all Cv.freeB = true ∧ cs'.all Cv.freeB = true ∧
      (∀ j : Nat, (cs1[j]?).map (Cv.den e) = (cs[j]?).map (Cv.den env0)) ∧ ∀ j : Nat, (csN[j]?).map (Cv.den e) = (cs'[j]?).map (Cv.den env0))
    (hb : alook σ.bk id = some (.ar T false cs1 none)) (hlenN : csN.length = cs1.length) (hsc : ∀ c ∈ csN, c.freeB = true ∨ c ∈ cs1)
    (ha : ∀ e : Env, args.map (·.den e) = args0.map (·.den (e.ren fun _ => id))) (hs : ∀ x ∈ args0, ∀ cs, x.sc (look (st1 T cs))) (hv : v.freeB = true) :
    FunOk P f args σ v (putC σ id csN) := by
  have hkeep : KeepL σ (putC σ id csN) := by
    intro i off _ hu
    by_cases hi : i = id
    · subst hi
      have hge : csN.length ≤ off := by
        rcases Nat.lt_or_ge off csN.length with h1 | h1
        · exfalso
          obtain ⟨v, hv⟩ := mem_cellWrs (id := i) (cs := csN) (o := 0) (j := off) h1
          have := List.all_eq_true.1 hu _ (List.mem_append_left _ (List.mem_reverse.2 hv))
          simp at this
        · exact h1
      simp only [look, putC, alook_amod, if_true, hb, Option.map_some, Option.bind_some, Blk.putL, Blk.cell]
      rw [List.getElem?_eq_none hge, List.getElem?_eq_none (by rw [← hlenN]; exact hge)]
    · simp only [look, putC, alook_amod, if_neg hi]
  refine ⟨fun C e w hp _ => ?_, hkeep⟩
  obtain ⟨cs, σ0', cs', h, hr, ics, ics', same1, same2⟩ := H e
  have k1 : look σ (.k id) = some (.bk (.ar T false cs1.length none)) := by simp only [look, hb]; rfl
  have hfd : ∀ {c : Cv}, c.freeB = true → ∀ e e' : Env, c.den e = c.den e' := fun {c} hc e e' => by
    have := Cv.den_agree (s := fun _ => none) (e := e') (e' := e) ⟨fun _ h => (by cases h), fun _ h => (by cases h)⟩ (Cv.free_sc hc _)
    exact this
  have hlen0 : cs.length = cs1.length := by
    rcases Nat.lt_trichotomy cs.length cs1.length with h1 | h1 | h1
    · have := same1 cs.length
      rw [List.getElem?_eq_getElem h1, List.getElem?_eq_none (Nat.le_refl _)] at this; cases this
    · exact h1
    · have := same1 cs1.length
      rw [List.getElem?_eq_none (Nat.le_refl _), List.getElem?_eq_getElem h1] at this; cases this
  have hlen' : cs'.length = csN.length := by
    rcases Nat.lt_trichotomy cs'.length csN.length with h1 | h1 | h1
    · have := same2 cs'.length
      rw [List.getElem?_eq_getElem h1, List.getElem?_eq_none (Nat.le_refl _)] at this; cases this
    · exact h1
    · have := same2 csN.length
      rw [List.getElem?_eq_none (Nat.le_refl _), List.getElem?_eq_getElem h1] at this; cases this
  let C1 : Ctx := ⟨fun k => k = (e.pl id).1 ∨ w.heap.size ≤ k, fun _ => none, fun _ => none, w⟩
  have one : ∀ i b, look (st1 T cs) (.k i) = some (.bk b) → i = 1 ∧ b = .ar T false cs.length none := by
    intro i b hib
    simp only [look, st1, alook] at hib
    cases h1 : Nat.beq 1 i with
    | true =>
      rw [h1] at hib
      obtain rfl := beq_iff'.1 h1
      exact ⟨rfl, by simpa [Blk.info] using hib.symm⟩
    | false => rw [h1] at hib; cases hib
  have hp0 : Hp C1 (e.ren fun _ => id) (look (st1 T cs)) w := by
    refine ⟨fun k hk => Or.inr hk, ?_, ?_, ?_, ?_, ?_, ?_, ?_, ⟨fun _ _ h => (by cases h), fun _ _ h => (by cases h)⟩, ⟨rfl, rfl, rfl, Nat.le_refl _, fun _ _ _ => rfl, hp.fr.glob fun k hk hm => by
      rcases hm with hm | hm
      · exact hm ▸ hp.mu id _ k1 rfl
      · have : w.heap.size ≤ k := hm
        have := hp.fr.size
        omega⟩⟩
    · intro i j c hc
      simp only [look, st1, alook] at hc
      cases h1 : Nat.beq 1 i with
      | true =>
        rw [h1] at hc
        obtain rfl := beq_iff'.1 h1
        obtain ⟨c', hc1, hc2⟩ := Option.map_eq_some_iff.1 (show (cs[j]?).map LV.cv = some (.cv c) from hc)
        obtain rfl : c' = c := by simpa using hc2
        have hfc := List.all_eq_true.1 ics _ (List.mem_of_getElem? hc1)
        refine ⟨Cv.free_sc hfc _, ⟨T, false, cs.length, none, rfl, (List.getElem?_eq_some_iff.1 hc1).1⟩, ?_⟩
        have h5 := same1 j
        have hlt1 : j < cs1.length := by rw [← hlen0]; exact (List.getElem?_eq_some_iff.1 hc1).1
        rw [hc1, List.getElem?_eq_getElem hlt1] at h5
        have h5 : (cs1[j]).den e = c'.den env0 := by simpa using h5
        have h6 : look σ (.c id j) = some (.cv cs1[j]) := by
          simp only [look, hb, Option.bind_some, Blk.cell, List.getElem?_eq_getElem hlt1, Option.map_some]
        obtain ⟨_, _, h7⟩ := hp.cl _ _ _ h6
        rw [h5, hfd hfc env0 (e.ren fun _ => id)] at h7
        exact h7
      | false => rw [h1] at hc; cases hc
    · intro i t n cp hi off ho
      obtain ⟨rfl, h2⟩ := one i _ hi
      cases h2
      exact hp.ar id T cs1.length none k1 off (by rw [← hlen0]; exact ho)
    · intro i t r n f cp hi
      obtain ⟨_, h2⟩ := one i _ hi
      cases h2
    · intro i b c es hi hcp
      obtain ⟨_, rfl⟩ := one i _ hi
      cases hcp
    · intro i j b b' hi hj _ _ hij
      obtain ⟨rfl, _⟩ := one i _ hi
      obtain ⟨rfl, _⟩ := one j _ hj
      exact absurd rfl hij
    · intro i b hi hl
      obtain ⟨rfl, _⟩ := one i _ hi
      exact hp.lt id _ k1 rfl
    · intro i b hi hrw
      obtain ⟨rfl, _⟩ := one i _ hi
      exact Or.inl rfl
  have h1 := h.run C1 (e.ren fun _ => id) w hp0 (fun x hx => hs x hx cs)
  rw [ha e]
  refine h1.mono fun en w' => ?_
  rintro ⟨e', hA, hp', rfl, -⟩
  have hpl : e'.pl 1 = e.pl id := hA.1 1 (by unfold kn; simp only [look, st1, alook]; rfl)
  have kk : ∀ i, look (putC σ id csN) (.k i) = look σ (.k i) := by
    intro i
    simp only [look, putC, alook_amod]
    split
    · rename_i e1
      subst e1
      rw [hb]
      simp only [Option.map_some, Blk.putL, Blk.info, hlenN]
    · rfl
  have kc : ∀ i off, i ≠ id → look (putC σ id csN) (.c i off) = look σ (.c i off) := by
    intro i off hi
    simp only [look, putC, alook_amod, if_neg hi]
  have kcid : ∀ off, look (putC σ id csN) (.c id off) = (csN[off]?).map .cv := by
    intro off
    simp only [look, putC, alook_amod, if_true, hb, Option.map_some, Option.bind_some, Blk.putL, Blk.cell]
  have hS : Sub (look σ) (look (putC σ id csN)) := ⟨fun i hi => by unfold kn at hi ⊢; rw [kk]; exact hi, fun _ hc => hc⟩
  have ad1 : ∀ off, e'.ad 1 off = e.ad id off := fun off => by
    unfold Env.ad; rw [hpl]
  have kr : look σ0' (.k 1) = some (.bk (.ar T false cs'.length none)) := by simp only [look, hr]; rfl
  have keep : ∀ i b, i ≠ id → look σ (.k i) = some (.bk b) → b.live = true → w'.heap[(e.pl i).1]? = w.heap[(e.pl i).1]? := by
    intro i b hi hbk hl
    refine hp'.fr.block _ (hp.lt i b hbk hl) ?_
    rintro (h2 | h2)
    · exact hp.inj id i _ b k1 hbk rfl hl (Ne.symm hi) h2.symm
    · have := hp.lt i b hbk hl
      omega
  refine ⟨e, Agree.refl _ _, ⟨hp.new, ?_, ?_, ?_, ?_, ?_, ?_, ?_, hp.pin.mono (Agree.refl _ _) hS, ?_⟩, by rw [Sv.free_den hv e' e], Sv.free_sc hv _⟩
  · intro i off x hx
    by_cases hi : i = id
    · subst hi
      rw [kcid] at hx
      obtain ⟨c2, hc2, hc3⟩ := Option.map_eq_some_iff.1 hx
      obtain rfl : c2 = x := by simpa using hc3
      have hlt := (List.getElem?_eq_some_iff.1 hc2).1
      refine ⟨?_, ⟨T, false, cs1.length, none, by rw [kk]; exact k1, by rw [← hlenN]; exact hlt⟩, ?_⟩
      · rcases hsc c2 (List.mem_of_getElem? hc2) with h2 | h2
        · exact Cv.free_sc h2 _
        · obtain ⟨j, hj⟩ := List.mem_iff_getElem?.1 h2
          have h6 : look σ (.c i j) = some (.cv c2) := by
            simp only [look, hb, Option.bind_some, Blk.cell, hj, Option.map_some]
          exact (hp.cl i j c2 h6).1.sub hS
      · have h5 := same2 off
        have hlt' : off < cs'.length := by rw [hlen']; exact hlt
        rw [hc2, List.getElem?_eq_getElem hlt'] at h5
        have h5 : c2.den e = (cs'[off]).den env0 := by simpa using h5
        have h7 := (hp'.cl 1 off cs'[off] (by simp only [look, hr, Option.bind_some, Blk.cell, List.getElem?_eq_getElem hlt']; rfl)).2.2
        rw [ad1] at h7
        rw [h7, h5, hfd (List.all_eq_true.1 ics' _ (List.getElem_mem hlt')) e' env0]
    · rw [kc i off hi] at hx
      obtain ⟨q1, ⟨t, r, n, cp, q2, q3⟩, q4⟩ := hp.cl i off x hx
      exact ⟨q1.sub hS, ⟨t, r, n, cp, by rw [kk]; exact q2, q3⟩, (World.cell?_of_block (w := w) (keep i _ hi q2 rfl)).trans q4⟩
  · intro i t n cp hx off ho
    rw [kk] at hx
    by_cases hi : i = id
    · subst hi
      rw [k1] at hx
      obtain ⟨rfl, rfl, rfl⟩ : T = t ∧ cs1.length = n ∧ none = cp := by simpa using hx
      have := hp'.ar 1 T cs'.length none kr off (by rw [hlen', hlenN]; exact ho)
      rw [ad1] at this
      exact this
    · have hk := keep i _ hi hx rfl
      have := hp.ar i t n cp hx off ho
      exact ⟨(World.frozen?_of_block (w := w) hk).trans this.1, by rw [World.cell?_of_block (w := w) hk]; exact this.2⟩
  · intro i t r n f cp hx off ho
    rw [kk] at hx
    by_cases hi : i = id
    · subst hi; rw [k1] at hx; cases hx
    · have hk := keep i _ hi hx rfl
      have := hp.oq i t r n f cp hx off ho
      exact ⟨(World.cell?_of_block (w := w) hk).trans this.1, fun hro => (World.frozen?_of_block (w := w) hk).trans (this.2 hro)⟩
  · intro i b c es hx hcp
    rw [kk] at hx
    by_cases hi : i = id
    · subst hi
      rw [k1] at hx
      obtain rfl : BI.ar T false cs1.length none = b := by simpa using hx
      cases hcp
    · have hl : b.live = true := by cases b <;> first | rfl | cases hcp
      obtain ⟨q1, q2, a, q3, q4⟩ := hp.cp i b c es hx hcp
      exact ⟨hS.2 c q1, q2, a, (keep i b hi hx hl).trans q3, q4⟩
  · intro i j b b' hi hj hrw hl hij
    rw [kk] at hi hj
    exact hp.inj i j b b' hi hj hrw hl hij
  · intro i b hi hl
    rw [kk] at hi
    exact Nat.lt_of_lt_of_le (hp.lt i b hi hl) hp'.fr.size
  · intro i b hi hrw
    rw [kk] at hi
    exact hp.mu i b hi hrw
  · have F := hp.fr
    have G := hp'.fr
    refine ⟨G.os.trans F.os, G.tape.trans F.tape, G.output.trans F.output, Nat.le_trans F.size G.size, fun k hk hM => ?_, F.gl⟩
    refine (G.block k (Nat.lt_of_lt_of_le hk F.size) ?_).trans (F.block k hk hM)
    rintro (h2 | h2)
    · exact hM (h2 ▸ hp.mu id _ k1 rfl)
    · have : w.heap.size ≤ k := h2
      have := F.size
      omega
end
end Sx
end Go.Proofs.YtlhponankanlmaaGreatDoor

/-
  Rules for the evaluator: names, numbers in decimal, texts that are joined; the examples' text.
-/
set_option linter.unusedSimpArgs false
set_option linter.unusedVariables false
namespace Go.Proofs.YtlhponankanlmaaGreatDoor
open Sx Go.RowKit
theorem fmt_any (n : Int) (h0 : -9223372036854775808 ≤ n) (h1 : n ≤ 9223372036854775807) (w : World) (hG : GlobP w) :
    Calls Tryz.prog 44 #[.int .i64 n, .int .i64 10] w fun e w' => e = .returned (.string ⟨(Lib.itoa n).toArray⟩) ∧ Below w.heap.size w w' := by
  refine (Any.strconv_FormatInt_10 laysM173 n h0 h1 w hG).mono fun e w' => ?_
  rintro ⟨rfl, k, os, rfl⟩
  exact ⟨rfl, Lib.below_grow _ _ (Nat.le_refl _) _ _⟩
theorem join_any (bk o c : Nat) (xs : List ByteArray) (sep : ByteArray) (w : World) (hcells : ∀ (j : Nat) x, xs[j]? = some x → w.cell? ⟨bk, o + j, none⟩ = some (.string x)) (hbk : bk < w.heap.size) (hN : xs.length ≤ 140737488355328) (hcap : xs.length ≤ c) (hlen : (Lib.join (xs.map (·.data.toList)) sep.data.toList).length ≤ 140737488355328) :
    Calls Tryz.prog 45 #[.slice (some ⟨bk, o, none⟩) xs.length c, .string sep] w fun e w' => e = .returned (.string ⟨(Lib.join (xs.map (·.data.toList)) sep.data.toList).toArray⟩) ∧ Below w.heap.size w w' :=
  Any.strings_Join lays156 Builder_Extra_156 bk o c xs sep w hcells hbk hN hcap hlen
/-- The rule of isName. -/
def nmRule : List Sv → St → Tree FLeaf
  | [.one (.s v l)], σ => .must (decide (v.size ≤ 9223372036854775807)) (.leaf (.one (.b (nameB v) l), σ))
  | _, _ => .fail
theorem nmRule_ok {args : List Sv} {σ : St} {y : FLeaf} (hy : (nmRule args σ).At y) : FunOk Tryz.prog 66 args σ y.1 y.2 := by
  unfold nmRule at hy
  split at hy
  · rename_i v l
    obtain ⟨h1, h2⟩ := hy
    obtain rfl : _ = y := h2
    exact FunOk.of_any rfl fun e w => isName_any v w (of_decide_eq_true h1)
  · exact hy.elim
/-- The rule of FormatInt, to the base of 10. -/
def fmRule : List Sv → St → Tree FLeaf
  | [.one (.i .i64 n l), .one (.i .i64 10 _)], σ => .must (decide (-9223372036854775808 ≤ n ∧ n ≤ 9223372036854775807)) (.leaf (.one (.s ⟨(Lib.itoa n).toArray⟩ l), σ))
  | _, _ => .fail
theorem fmRule_ok {args : List Sv} {σ : St} {y : FLeaf} (hy : (fmRule args σ).At y) : FunOk Tryz.prog 44 args σ y.1 y.2 := by
  unfold fmRule at hy
  split at hy
  · rename_i n l l2
    obtain ⟨h1, h2⟩ := hy
    obtain rfl : _ = y := h2
    obtain ⟨a, b⟩ := of_decide_eq_true h1
    exact FunOk.of_anyG rfl fun e w hG => fmt_any n a b w hG.1
  · exact hy.elim
/-- The texts of some cells. -/
def strs : List Cv → Option (List ByteArray)
  | [] => some []
  | .s v _ :: cs => (strs cs).map (v :: ·)
  | _ :: _ => none
theorem strs_at : ∀ {cs : List Cv} {xs : List ByteArray}, strs cs = some xs → cs.length = xs.length ∧ ∀ (e : Env) (j : Nat) x, xs[j]? = some x → ∃ c, cs[j]? = some c ∧ c.den e = .string x
  | [], xs, h => by
    obtain rfl := Option.some.inj h
    exact ⟨rfl, fun e j x hx => by simp at hx⟩
  | c :: cs, xs, h => by
    cases c with
    | s v l =>
      obtain ⟨ys, hys, rfl⟩ := Option.map_eq_some_iff.1 (show (strs cs).map (v :: ·) = some xs from h)
      obtain ⟨h1, h2⟩ := strs_at hys
      refine ⟨by simp [h1], fun e j x hx => ?_⟩
      cases j with
      | zero =>
        obtain rfl : v = x := by simpa using hx
        exact ⟨_, rfl, rfl⟩
      | succ j => exact h2 e j x (by simpa using hx)
    | _ => cases h
def capIs (σ : St) (id n : Nat) : Sn → Bool
  | .lit c => Nat.ble n c
  | .nam c => capOf σ id c 1 n
  | .opq _ => false
/-- The rule of Join: a row that is written out. -/
def jnRule : List Sv → St → Tree FLeaf
  | [.one (.slc id (.lit off) (.lit n) cap), .one (.s sep _)], σ => match alook σ.bk id with
    | some (.ar _ _ l _) => match strs ((l.drop off).take n), Nat.ble (off + n) l.length && capIs σ id n cap with
      | some xs, true => .must (decide (n ≤ 140737488355328 ∧ (Lib.join (xs.map (·.data.toList)) sep.data.toList).length ≤ 140737488355328)) (.leaf (.one (.s ⟨(Lib.join (xs.map (·.data.toList)) sep.data.toList).toArray⟩ true), σ))
      | _, _ => .fail
    | _ => .fail
  | _, _ => .fail
theorem jnRule_ok {args : List Sv} {σ : St} {y : FLeaf} (hy : (jnRule args σ).At y) : FunOk Tryz.prog 45 args σ y.1 y.2 := by
  unfold jnRule at hy
  split at hy
  · rename_i id off n cap sep l
    split at hy
    · rename_i t ro cs cp hb
      split at hy
      · rename_i xs hxs hc
        simp only [Bool.and_eq_true] at hc
        obtain ⟨hle, hcp⟩ := hc
        rw [Nat.ble_eq] at hle
        obtain ⟨h1, h2⟩ := hy
        obtain rfl : _ = y := h2
        obtain ⟨a, b⟩ := of_decide_eq_true h1
        obtain ⟨k1, k2⟩ := strs_at hxs
        have hxl : xs.length = n := by rw [← k1, List.length_take, List.length_drop]; omega
        refine FunOk.of_w rfl fun C e w hp ha => ?_
        have hk : Sx.look σ (.k id) = some (.bk (.ar t ro cs.length cp)) := by simp only [Sx.look, hb]; rfl
        have hcap : n ≤ cap.den e := by
          cases cap with
          | lit c => exact Nat.le_of_ble_eq_true hcp
          | nam c => exact (capOf_le hcp hp rfl).1
          | opq c => cases hcp
        have h3 := join_any (e.pl id).1 ((e.pl id).2 + off) (cap.den e) xs sep w (fun j x hx => by
          obtain ⟨c, hc, hd⟩ := k2 e j x hx
          have hjn : j < n := by rw [← hxl]; exact (List.getElem?_eq_some_iff.1 hx).1
          rw [List.getElem?_take_of_lt hjn, List.getElem?_drop] at hc
          have hl : Sx.look σ (.c id (off + j)) = some (.cv c) := by simp only [Sx.look, hb, Option.bind_some, Blk.cell, hc, Option.map_some]
          obtain ⟨_, _, h5⟩ := hp.cl _ _ _ hl
          rw [hd] at h5
          unfold Env.ad at h5
          rw [← Nat.add_assoc] at h5
          exact h5) (hp.lt id _ hk rfl) (by omega) (by omega) b
        rw [hxl] at h3
        exact h3
      · exact hy.elim
    · exact hy.elim
  · exact hy.elim
def spD (f : FuncId) : Option (List Sv → St → Tree FLeaf) := match Nat.beq f 66 with
  | true => some nmRule
  | false => match Nat.beq f 44 with
    | true => some fmRule
    | false => match Nat.beq f 45 with
      | true => some jnRule
      | false => none
theorem spD_ok : SpOk Tryz.prog spD := by
  intro f g hf args σ y hy
  unfold spD at hf
  split at hf
  · rename_i h; obtain rfl := beq_iff'.1 h
    obtain rfl := Option.some.inj hf; exact nmRule_ok hy
  · split at hf
    · rename_i h; obtain rfl := beq_iff'.1 h
      obtain rfl := Option.some.inj hf; exact fmRule_ok hy
    · split at hf
      · rename_i h; obtain rfl := beq_iff'.1 h
        obtain rfl := Option.some.inj hf; exact jnRule_ok hy
      · cases hf
def exE : List Cv := [.i .i64 1 true, .i .i64 5 true, .i .i64 1000 true, .i .i64 2 true, .s ⟨#[98, 49]⟩ true, .s ⟨#[]⟩ true]
/-- The text of the example: made 5 1000 2 b1. -/
def exS : ByteArray := ⟨#[109, 97, 100, 101, 32, 53, 32, 49, 48, 48, 48, 32, 50, 32, 98, 49]⟩
/-- All ways lead to such a value. -/
def okV (p : Sv → Bool) : Tree FLeaf → Bool
  | .leaf y => p y.1
  | .must b t => b && okV p t
  | .br b t f => bif b then okV p t else okV p f
  | .fail => false
theorem okV_at {p : Sv → Bool} : ∀ {T : Tree FLeaf}, okV p T = true → ∃ y, T.At y ∧ p y.1 = true
  | .leaf y, h => ⟨y, rfl, h⟩
  | .must b t, h => by
    obtain ⟨h1, h2⟩ := Bool.and_eq_true_iff.1 (show (b && okV p t) = true from h)
    obtain ⟨y, h3, h4⟩ := okV_at h2
    exact ⟨y, ⟨h1, h3⟩, h4⟩
  | .br b t f, h => by
    have h' : (bif b then okV p t else okV p f) = true := h
    cases b with
    | true => obtain ⟨y, h3, h4⟩ := okV_at (T := t) h'; exact ⟨y, Or.inl ⟨rfl, h3⟩, h4⟩
    | false => obtain ⟨y, h3, h4⟩ := okV_at (T := f) h'; exact ⟨y, Or.inr ⟨rfl, h3⟩, h4⟩
theorem okV_fun {P : Program} {tb : Tb} {wf : List FuncId} {sp : FuncId → Option (List Sv → St → Tree FLeaf)} {fuel d f : Nat} (hT : TbOk P tb) (hm : P.follows .mixedOrders = true) (hs : SpOk P sp) {args : List Sv} {p : Sv → Bool}
    (h : okV p (evFn tb wf sp fuel d f args st0) = true) : ∃ y : FLeaf, p y.1 = true ∧ FunOk P f args st0 y.1 y.2 := by
  obtain ⟨y, h1, h2⟩ := okV_at h
  exact ⟨y, h2, evFn_at hT hm hs h1⟩
def isEx : Sv → Bool
  | .tup [(false, [.s x _]), (false, [.i .i64 n _])] => (x.data.toList == exS.data.toList) && decide (n = 0)
  | _ => false
theorem isEx_at {v : Sv} (h : isEx v = true) : ∃ l l2, v = .tup [(false, [.s exS l]), (false, [.i .i64 0 l2])] := by
  unfold isEx at h
  split at h
  · rename_i x l n l2
    rw [Bool.and_eq_true] at h
    obtain ⟨h1, h2⟩ := h
    obtain rfl := of_decide_eq_true h2
    have h3 := eq_of_beq h1
    obtain ⟨d⟩ := x
    have h4 : d = exS.data := Array.toList_inj.1 h3
    exact ⟨l, l2, by rw [h4]⟩
  · cases h
set_option maxRecDepth 100000 in
theorem exText : okV isEx (evFn tbl [46] spD 300 12 14 [.agg exE] st0) = true := by kernel_rfl
def exV : Value := .agg #[.int .i64 1, .int .i64 5, .int .i64 1000, .int .i64 2, .string ⟨#[98, 49]⟩, .string ⟨#[]⟩]
theorem exText_any (w : World) (hG : Glob0 w) : Calls Tryz.prog 14 #[exV] w fun e w' => e = .returned (.tuple #[.string exS, .int .i64 0]) ∧ Below w.heap.size w w' := by
  obtain ⟨y, h2, h1⟩ := okV_fun tbl_ok tbl_any spD_ok exText
  obtain ⟨l, l2, h3⟩ := isEx_at h2
  have h4 := h1.any (fun x hx => by
    obtain rfl := List.mem_singleton.1 hx
    rfl) (by rw [h3]; rfl) w hG
  rw [h3] at h4
  exact h4
end Go.Proofs.YtlhponankanlmaaGreatDoor

/-
  Words, Digest and Tag of the code.
-/
set_option linter.unusedSimpArgs false
set_option linter.unusedVariables false
namespace Go.Proofs.YtlhponankanlmaaGreatDoor
open Go.RowKit

theorem BytV.at_ {a : Option Addr} {m : List Nat} {W : World} (h : BytV a m W) : BytAt a m W.heap.size W.heap.size W := fun hn => by
  obtain ⟨b, off, rfl, h1, h2⟩ := h hn
  exact ⟨b, off, rfl, ⟨h1, by omega⟩, h2⟩
theorem digest_any (p b x bf off cap : Nat) (a : Option Addr) (m : List Nat) (w : World) (hp0 : 0 < p) (hp : p < 2147483648) (hx : x < 2147483648) (hb1 : 1 ≤ b) (hb3 : b ≤ 3) (hB : Byt m) (hlen : m.length ≤ 2000)
    (hbf : bf < w.heap.size) (hP : w.cell? ⟨bf, off, none⟩ = some (.int .u64 p)) (hQ : w.cell? ⟨bf, off + 1, none⟩ = some (.int .i64 b)) (hA : BytV a m w) :
    Calls Tryz.prog 78 #[.pointer (some ⟨bf, off, none⟩), .int .u64 x, .slice a m.length cap] w fun e w' => e = .returned (.int .u64 (dig p b x m)) ∧ Below w.heap.size w w' :=
  callsIn_wide.1 (digest_in p b x bf off cap a m w hp0 hp hx hb1 hb3 hB hlen hbf hP hQ hA.at_)

set_option maxHeartbeats 1000000 in
set_option maxRecDepth 20000 in
theorem Digest_any (n : Int) (x c : Nat) (a : Option Addr) (m : List Nat) (w : World) (hx : x < 18446744073709551616) (hB : Byt m) (hlen : m.length ≤ 2000) (hA : BytV a m w) :
    Calls Tryz.prog 40 #[.int .i64 n, .int .u64 x, .slice a m.length c] w fun e w' => e = .returned (.tuple #[.int .u64 (digR n x m).1, .int .i64 (digR n x m).2]) ∧ Below w.heap.size w w' := by
  unfold digR
  rcases fi_cases n with ⟨hn, hf⟩ | ⟨i, hi, rfl, hf⟩
  · rw [hf]
    have C := Lib.hid (fun w => fieldOf_none n hn w)
    clear hn hf
    go_enter Tryz.func40, Tryz.ntmps40
    go_wp2_with (go_at_call 89; refine (C.out _).mono ?_; rintro e w1 ⟨rfl, hb⟩)
    exact bodyPost_ret (v := .tuple #[.int .u64 0, .int .i64 2]) (by simp only [results, Tryz.results40]; go_simp) rfl ⟨rfl, (by repeat' (first | exact Below.refl _ _ | assumption | apply bDrewN | apply bDrew | apply bAlloc | (refine bSet ?_ ?_ _) | (refine bStep ?_ (by assumption)) | omega | (simp <;> omega)))⟩
  · rw [hf]
    have C := Lib.hid (fun w => fieldOf_some i hi w)
    have hp := prim_bd i
    dsimp only
    have HA := Lib.hid hA
    have hi3 : i + 1 ≤ 3 := by omega
    have hi1 : 1 ≤ i + 1 := by omega
    have HD := Lib.hid (fun (bf off : Nat) (w1 : World) (hbf : bf < w1.heap.size) h1 h2 h3 (h4 : x < prim i) => digest_any (prim i) (i + 1) x bf off c a m w1 (by omega) hp.2 (by omega) hi1 hi3 hB hlen hbf h1 h2 h3)
    clear hA hf hi3 hi1 hi
    generalize dig (prim i) (i + 1) x m = D at *
    generalize hP : prim i = P at *
    generalize i + 1 = b at *
    by_cases h1 : 1000 < m.length
    · rw [if_pos h1]
      have h1' : 1000 < (m.length : Int) := by omega
      generalize m.length = L at *
      go_enter Tryz.func40, Tryz.ntmps40
      go_wp2_with (go_at_call 89; refine (C.out _).mono ?_; rintro e w1 ⟨B, off, rfl, hB1, hB2, hc1, hc2, hb⟩)
      exact bodyPost_ret (v := .tuple #[.int .u64 0, .int .i64 7]) (by simp only [results, Tryz.results40]; go_simp) rfl ⟨rfl, (by repeat' (first | exact Below.refl _ _ | assumption | apply bDrewN | apply bDrew | apply bAlloc | (refine bSet ?_ ?_ _) | (refine bStep ?_ (by assumption)) | omega | (simp <;> omega)))⟩
    · rw [if_neg h1]
      have h1' : (m.length : Int) ≤ 1000 := by omega
      by_cases h2 : x < 1 ∨ P ≤ x
      · rw [if_pos h2]
        have h2' : (x : Int) < 1 ∨ (1 ≤ (x : Int) ∧ (P : Int) ≤ x) := by omega
        clear h2 h1 HD
        rcases h2' with h2 | ⟨h2, h3⟩
        all_goals
          go_enter Tryz.func40, Tryz.ntmps40
          go_wp2_with (go_at_call 89; refine (C.out _).mono ?_; rintro e w1 ⟨B, off, rfl, hB1, hB2, hc1, hc2, hb⟩)
          exact bodyPost_ret (v := .tuple #[.int .u64 0, .int .i64 3]) (by simp only [results, Tryz.results40]; go_simp) rfl ⟨rfl, (by repeat' (first | exact Below.refl _ _ | assumption | apply bDrewN | apply bDrew | apply bAlloc | (refine bSet ?_ ?_ _) | (refine bStep ?_ (by assumption)) | omega | (simp <;> omega)))⟩
      · rw [if_neg h2]
        have h2' : 1 ≤ (x : Int) := by omega
        have h3 : (x : Int) < P := by omega
        have h4 : x < P := by omega
        clear h2 h1
        go_enter Tryz.func40, Tryz.ntmps40
        go_wp2_with (first | (go_at_call 89; refine (C.out _).mono ?_; rintro e w1 ⟨B, off, rfl, hB1, hB2, hc1, hc2, hb⟩) | (go_at_call 78; refine (HD.out _ _ _ hB2 hc1 hc2 (HA.out.step hb) h4).mono ?_; rintro e w2 ⟨rfl, hb2⟩))
        exact bodyPost_ret (v := .tuple #[.int .u64 D, .int .i64 0]) (by simp only [results, Tryz.results40]; go_simp) rfl ⟨rfl, (by repeat' (first | exact Below.refl _ _ | assumption | apply bDrewN | apply bDrew | apply bAlloc | (refine bSet ?_ ?_ _) | (refine bStep ?_ (by assumption)) | omega | (simp <;> omega)))⟩
end Go.Proofs.YtlhponankanlmaaGreatDoor

/-
  The examples of the statements about package passport: works answers true.
-/
set_option linter.unusedSimpArgs false
set_option linter.unusedVariables false
namespace Go.Proofs.YtlhponankanlmaaGreatDoor
open Sx Go.RowKit
theorem glob_step {w w' : World} (h : Glob0 w) (hb : Below w.heap.size w w') : Glob0 w' :=
  ⟨h.1.kept fun g hg => hb.block g (h.2 g hg).2, fun g hg => ⟨by have := (h.2 g hg).2; have := hb.size; omega, Nat.lt_of_lt_of_le (h.2 g hg).2 hb.size⟩⟩
theorem byt5 : Byt [5] := fun k => by
  match k with
  | 0 => decide
  | k + 1 => simp
theorem byt_one (W : World) (x : Nat) (T : TypeId) : BytV (some ⟨W.heap.size, 0, none⟩) [x] (W.alloc (.cells #[.int .u8 x] T)) := fun _ => by
  refine ⟨_, 0, rfl, by simp, fun k hk => ?_⟩
  obtain rfl : k = 0 := by simpa using hk
  go_simp
theorem ex_dig : digR 0 2 [5] = (30, 0) := by rfl
set_option maxHeartbeats 1000000 in
set_option maxRecDepth 20000 in
theorem works_any (w : World) (hG : Glob0 w) : Calls Tryz.prog 11 #[] w fun e w' => e = .returned (.bool true) ∧ Below w.heap.size w w' := by
  have CD := Lib.hid (fun W => Digest_any 0 2 1 (some ⟨w.heap.size, 0, none⟩) [5] W (by decide) byt5 (by decide))
  rw [ex_dig] at CD
  have CT := Lib.hid (fun W hG => exText_any W hG)
  have HB := Lib.hid (byt_one w 5 5)
  have HG := Lib.hid hG
  clear hG
  unfold exV exS at CT
  go_enter Tryz.func11, Tryz.ntmps11
  go_wp2_with (first | (go_at_call 40; refine (CD.out _ HB.out).mono ?_; rintro e w1 ⟨rfl, hb1⟩; have kb1 : Below w.heap.size w w1 := ((Below.refl _ _).alloc (Nat.le_refl _) _).trans (hb1.mono (by simp))) | (go_at_call 14; refine (CT.out _ (glob_step HG.out kb1)).mono ?_; rintro e w2 ⟨rfl, hb2⟩))
  go_ret
  exact ⟨rfl, bStep kb1 hb2⟩
end Go.Proofs.YtlhponankanlmaaGreatDoor
