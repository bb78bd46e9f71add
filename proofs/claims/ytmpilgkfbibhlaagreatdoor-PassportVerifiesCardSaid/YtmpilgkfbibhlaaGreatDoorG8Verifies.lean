/-
 A function that writes into one block that it is handed, and reads one more: what is known of it at one state is known at every state that has the two blocks.
-/
import Derived.Test.YtmpilgkfbibhlaaGreatDoorG7Verifies
import Derived.DataReads
import Derived.Deep.Slices
set_option linter.unusedSimpArgs false
set_option linter.unusedVariables false
namespace Go.Proofs.YtmpilgkfbibhlaaGreatDoor
namespace Sx
open Go.RowKit
section
variable {P : Program} {tb : Tb}
def Blk.putL (cs : List Cv) : Blk → Blk
 | .ar t ro _ cp => .ar t ro cs cp
 | b => b
def putC (σ : St) (id : Nat) (cs : List Cv) : St := { σ with bk := amod (Blk.putL cs) σ.bk id, lg := (cellWrs id 0 cs).reverse ++ σ.lg }
theorem mem_cellWrs {id : Nat} : ∀ {cs : List Cv} {o j : Nat}, j < cs.length → ∃ v, Wr.cell id (o + j) v ∈ cellWrs id o cs
 | [], _, _, h => by simp at h
 | c :: cs, o, 0, _ => ⟨c, List.mem_cons_self⟩
 | c :: cs, o, j + 1, h => by
  obtain ⟨v, hv⟩ := mem_cellWrs (id := id) (cs := cs) (o := o + 1) (j := j) (by simpa using h)
  exact ⟨v, List.mem_cons_of_mem _ (by rwa [show o + (j + 1) = o + 1 + j by omega])⟩
theorem FunOk.cells {f : FuncId} {args : List Sv} {σ : St} {v : Sv} {id : Nat} {t : TypeId} {ro : Bool} {cs1 A B : List Cv} {cp : Option (Nat × Nat)} (h : FunOk P f args σ v (putC σ id A)) (hb : alook σ.bk id = some (.ar t ro cs1 cp)) (hl : B.length = A.length) (hl1 : B.length = cs1.length)
  (hd : ∀ (e : Env) (j : Nat), (B[j]?).map (Cv.den e) = (A[j]?).map (Cv.den e)) (hs : ∀ c ∈ B, ∀ s : Sto, (∀ i, kn (look σ) i → kn s i) → c.sc s) (hv : v.freeB = true) : FunOk P f args σ v (putC σ id B) := by
 have kk : ∀ i, look (putC σ id B) (.k i) = look (putC σ id A) (.k i) := by
  intro i
  simp only [look, putC, alook_amod]
  split
  ·rename_i e1; subst e1
   rw [hb]; simp only [Option.map_some, Blk.putL, Blk.info, hl]
  ·rfl
 have kc : ∀ i off, i ≠ id → look (putC σ id B) (.c i off) = look (putC σ id A) (.c i off) := by
  intro i off hi
  simp only [look, putC, alook_amod, if_neg hi]
 have kA : ∀ off, look (putC σ id A) (.c id off) = (A[off]?).map .cv := by
  intro off; simp only [look, putC, alook_amod, if_true, hb, Option.map_some, Option.bind_some, Blk.putL, Blk.cell]
 have kB : ∀ off, look (putC σ id B) (.c id off) = (B[off]?).map .cv := by
  intro off; simp only [look, putC, alook_amod, if_true, hb, Option.map_some, Option.bind_some, Blk.putL, Blk.cell]
 have hS : Sub (look (putC σ id A)) (look (putC σ id B)) := ⟨fun i hi => by unfold kn at hi ⊢; rw [kk]; exact hi, fun _ hc => hc⟩
 have hS0 : ∀ i, kn (look σ) i → kn (look (putC σ id B)) i := by
  intro i hi
  rw [kn_look] at hi ⊢
  simp only [putC, alook_amod]
  split
  ·rename_i e1; subst e1; rw [hb]; rfl
  ·exact hi
 refine ⟨fun C e w hp ha => (h.run C e w hp ha).mono fun en w' => ?_, ?_⟩
 ·rintro ⟨e', hA, hp', rfl, -⟩
  refine ⟨e', hA, ⟨hp'.new, ?_, fun i t n cp hx => hp'.ar i t n cp (by rw [← kk]; exact hx), fun i t r n f cp hx => hp'.oq i t r n f cp (by rw [← kk]; exact hx), fun i b c es hx => hp'.cp i b c es (by rw [← kk]; exact hx), fun i j b b' hx hy => hp'.inj i j b b' (by rw [← kk]; exact hx) (by rw [← kk]; exact hy),
   fun i b hx => hp'.lt i b (by rw [← kk]; exact hx), fun i b hx => hp'.mu i b (by rw [← kk]; exact hx), hp'.pin.mono (Agree.refl _ _) hS, hp'.fr⟩, rfl, Sv.free_sc hv _⟩
  intro i off x hx
  by_cases hi : i = id
  ·subst hi
   rw [kB] at hx
   obtain ⟨c, hc, hc2⟩ := Option.map_eq_some_iff.1 hx
   obtain rfl : c = x := by simpa using hc2
   have hlt : off < A.length := by rw [← hl]; exact (List.getElem?_eq_some_iff.1 hc).1
   have h5 := hd e' off
   rw [hc, List.getElem?_eq_getElem hlt] at h5
   have h5 : c.den e' = (A[off]).den e' := by simpa using h5
   obtain ⟨_, ⟨t, r, n, cp, q2, q3⟩, q4⟩ := hp'.cl i off A[off] (by rw [kA, List.getElem?_eq_getElem hlt]; rfl)
   exact ⟨hs c (List.mem_of_getElem? hc) _ hS0, ⟨t, r, n, cp, by rw [kk]; exact q2, q3⟩, by rw [h5]; exact q4⟩
  ·rw [kc i off hi] at hx
   obtain ⟨q1, ⟨t, r, n, cp, q2, q3⟩, q4⟩ := hp'.cl i off x hx
   exact ⟨q1.sub hS, ⟨t, r, n, cp, by rw [kk]; exact q2, q3⟩, q4⟩
 ·intro i off _ hu
  by_cases hi : i = id
  ·subst hi
   have hge : B.length ≤ off := by
    rcases Nat.lt_or_ge off B.length with h1 | h1
    ·exfalso
     obtain ⟨v, hv⟩ := mem_cellWrs (id := i) (cs := B) (o := 0) (j := off) h1
     have := List.all_eq_true.1 hu _ (List.mem_append_left _ (List.mem_reverse.2 hv))
     simp at this
    ·exact h1
   rw [kB, List.getElem?_eq_none hge]
   simp only [look, hb, Option.bind_some, Blk.cell]
   rw [List.getElem?_eq_none (by omega)]
  ·simp only [look, putC, alook_amod, if_neg hi]
end
end Sx
end Go.Proofs.YtmpilgkfbibhlaaGreatDoor
namespace Go.Proofs.YtmpilgkfbibhlaaGreatDoor
namespace Sx
open Go.RowKit
section
variable {P : Program} {tb : Tb}
def LoopFrom (P : Program) (c : Code) (Q : Exit → Act → World → Prop) (a : Act) (w : World) : Prop :=
 ∀ b k cs, ∃ e a' w', Q e a' w' ∧ Arrives P (lone (b.at a (.code c :: .inLoop c :: k)) cs w) b k cs e a' w'
theorem LoopFrom.wp {c : Code} {Q : Exit → Act → World → Prop} {a : Act} {w : World} (h : LoopFrom P c Q a w) : (Code.loop c).wp P Q a w := by
 intro b k cs
 obtain ⟨e, a', w', hq, harr⟩ := h b k cs
 exact ⟨e, a', w', hq, .of_steps (.one step_loop) harr⟩
theorem LoopFrom.once {c : Code} {Q : Exit → Act → World → Prop} {a : Act} {w : World} (h : c.wp P (Exit.then (LoopFrom P c Q) Q) a w) : LoopFrom P c Q a w := by
 intro b k cs
 obtain ⟨e, a₁, w₁, hq, harr⟩ := h b (.inLoop c :: k) cs
 cases e with
 | normal =>
  obtain ⟨e₂, a₂, w₂, hq₂, harr₂⟩ := hq b k cs
  exact ⟨e₂, a₂, w₂, hq₂, .of_steps (Steps.trans harr (.one step_inLoop)) harr₂⟩
 | exit id => exact ⟨_, a₁, w₁, hq, .pass (x := .inLoop c) rfl (fun _ _ => .inl (by simp)) harr⟩
 | goto l => exact ⟨_, a₁, w₁, hq, .pass (x := .inLoop c) rfl (fun _ _ => .inl (by simp)) harr⟩
 | ret => exact ⟨_, a₁, w₁, hq, .pass (x := .inLoop c) rfl (fun _ _ => .inl (by simp)) harr⟩
 | panic ch => exact ⟨_, a₁, w₁, hq, .pass (x := .inLoop c) rfl (fun _ _ => .inl (by simp)) harr⟩
 | outgrown => exact ⟨_, a₁, w₁, hq, .pass (x := .inLoop c) rfl (fun _ _ => .inl (by simp)) harr⟩
theorem LoopFrom.rounds {c : Code} {Q : Exit → Act → World → Prop} : ∀ {n : Nat} {a : Act} {w : World}, Code.rounds P c Q n a w → LoopFrom P c Q a w
 | 0, _, _, h => h.elim
 | n + 1, a, w, h => LoopFrom.once (Code.wp_mono (fun e a' w' q => by
   cases e with
   | normal => exact LoopFrom.rounds (n := n) q
   | _ => exact q) h)
inductive Kt where
 | code (c : Code)
 | blk (id : Nat)
 | again (c : Code)
def kPost (P : Program) (Q : Exit → Act → World → Prop) : List Kt → Exit → Act → World → Prop
 | [] => Q
 | .code c :: k => Exit.then (fun a w => c.wp P (kPost P Q k) a w) (kPost P Q k)
 | .blk id :: k => Exit.inBlock id (kPost P Q k)
 | .again c :: k => Exit.then (LoopFrom P c (kPost P Q k)) (kPost P Q k)
inductive Fin where
 | out (o : Out)
 | wait (k : List Kt)
def FPost (P : Program) (Q : Exit → Act → World → Prop) : Fin → Act → World → Prop
 | .out o => Post P Q o
 | .wait k => kPost P Q k .normal
abbrev SLeaf := Fin × St
def SegD (P : Program) (N : Nat) (σ : St) (k : List Kt) (o : Out) (x : SLeaf) : Prop :=
 ∀ (C : Ctx) (e : Env) (a : Act) (w : World) (Q : Exit → Act → World → Prop), Rel C N e (look σ) a w → (∀ e' a' w', Rel C N e' (look x.2) a' w' → FPost P Q x.1 a' w') → Post P (fun o => kPost P Q k o) o a w
theorem SegD.trans {N : Nat} {σ σ' : St} {k k' : List Kt} {o : Out} {x : SLeaf} (h : SegD P N σ k o (.wait k', σ')) (h2 : SegD P N σ' k' .normal x) : SegD P N σ k o x :=
 fun C e a w Q hR hQ => h C e a w Q hR fun e' a' w' hR' => h2 C e' a' w' Q hR' hQ
end
end Sx
end Go.Proofs.YtmpilgkfbibhlaaGreatDoor
namespace Go.Proofs.YtmpilgkfbibhlaaGreatDoor
namespace Sx
open Go.RowKit
section
variable {P : Program} {tb : Tb}
structure FVal where
 b : Nat → Bool
 i : Nat → Int
 n : Nat → Nat
 m : Nat → Nat
 f : Nat → Nat → Value
inductive FamP where
 | t (n : Nat) (l : Lf)
 | c (id off : Nat) (l : Lf)
 | row (t el size id c : Nat)
def FamP.ws (v : FVal) (j : Nat) : FamP → List Wr
 | .t n l => [.tm n (.one (l.cv v.b v.i j))]
 | .c id off l => [.cell id off (l.cv v.b v.i j)]
 | .row sl el size id cn => [.nm cn, .new id (.oq el false (v.m j) (v.f j) (some (cn, size))), .tm sl (.one (.slc id (.lit 0) (.opq (v.n j)) (.nam cn)))]
def FamP.at_ (v : FVal) (j : Nat) : FamP → Loc → Option (Option LV)
 | .t n l, .t n' => if n' = n then some (some (.sv (.one (l.cv v.b v.i j)))) else none
 | .c id off l, .c i o => if i = id ∧ o = off then some (some (.cv (l.cv v.b v.i j))) else none
 | .row sl _ _ id cn, .t n' => if n' = sl then some (some (.sv (.one (.slc id (.lit 0) (.opq (v.n j)) (.nam cn))))) else none
 | .row _ el size id cn, .k i => if i = id then some (some (.bk (.oq el false (v.m j) (v.f j) (some (cn, size))))) else none
 | .row _ _ _ id _, .c i _ => if i = id then some none else none
 | .row _ _ _ _ cn, .n c' => if c' = cn then some (some .nm) else none
 | _, _ => none
/-! What a state says of the family's places. -/
structure RowV where
 id : Nat
 c : Nat
 n : Nat
 m : Nat
 f : Nat → Value
def rowRd (el size : Nat) (y : St) (t : Nat) : Option RowV := match alook y.tm t with
 | some (.one (.slc id (.lit 0) (.opq n) (.nam c))) => match alook y.bk id with
  | some (.oq el' false m f (some (c', size'))) => match Nat.beq el el' && (Nat.beq c c' && Nat.beq size size') with
   | true => some ⟨id, c, n, m, f⟩
   | false => none
  | _ => none
 | some (.one (.slc id (.lit 0) (.lit n) (.nam c))) => match alook y.bk id with
  | some (.ar el' false cs (some (c', size'))) => match Nat.beq el el' && (Nat.beq c c' && (Nat.beq size size' && cs.all Cv.freeB)) with
   | true => some ⟨id, c, n, cs.length, fun o => ((cs[o]?).map (·.den env0)).getD undef⟩
   | false => none
  | _ => none
 | _ => none
def rwOf (y : St) : FamP → Option RowV
 | .row t el size _ _ => rowRd el size y t
 | _ => none
end
end Sx
end Go.Proofs.YtmpilgkfbibhlaaGreatDoor
namespace Go.Proofs.YtmpilgkfbibhlaaGreatDoor
namespace Sx
open Go.RowKit
section
variable {P : Program} {tb : Tb}
theorem Rel.ft {C : Ctx} {N : Nat} {e : Env} {s : Sto} {a : Act} {w : World} (h : Rel C N e s a w) (n : Nat) : Rel C N e ((Wr.ft n).upd s) a w := by
 have hs : ∀ l, (∀ t, l ≠ .t t) → (Wr.ft n).upd s l = s l := fun l hl => by
  cases l with
  | t m => exact absurd rfl (hl m)
  | _ => rfl
 have hS : Sub s ((Wr.ft n).upd s) := ⟨fun _ h => h, fun _ h => h⟩
 refine ⟨h.sz, h.df, fun t v ht => ?_, h.hp.congr hs⟩
 by_cases e1 : t = n
 ·subst e1; simp [Wr.upd, Wr.fn] at ht
 ·simp only [Wr.upd, Wr.fn, if_neg e1, Option.getD_none] at ht
  obtain ⟨h1, h2, h3⟩ := h.tm t v ht
  exact ⟨h1, h2, h3.sub hS⟩
/-! One way of a tree: the tests along it, and its end. -/
end
end Sx
end Go.Proofs.YtmpilgkfbibhlaaGreatDoor
namespace Go.Proofs.YtmpilgkfbibhlaaGreatDoor
namespace Sx
open Go.RowKit
section
variable {P : Program} {tb : Tb} {H : Type} {enc : TypeId × Value → H} {w : World} {base : Nat} {spare : Nat → Bool} {held : Bool}
end
end Sx
end Go.Proofs.YtmpilgkfbibhlaaGreatDoor
namespace Go.Proofs.YtmpilgkfbibhlaaGreatDoor
namespace Sx
open Go.RowKit
section
variable {P : Program} {tb : Tb}
theorem FunOk.of_w {f : FuncId} {args : List Sv} {v : Sv} {σ : St} (hv : v.freeB = true) (h : ∀ (C : Ctx) (e : Env) (w : World), Hp C e (look σ) w → (∀ x ∈ args, x.sc (look σ)) → Calls P f (args.map (·.den e)).toArray w fun en w' => en = .returned (v.den e) ∧ Below w.heap.size w w') : FunOk P f args σ v σ := by
 refine ⟨fun C e w hp ha => ?_, KeepL.refl _⟩
 refine (h C e w hp ha).mono fun en w' => ?_
 rintro ⟨rfl, hb⟩
 exact ⟨e, Agree.refl _ _, hp.keep hb, rfl, Sv.free_sc hv _⟩
end
end Sx
end Go.Proofs.YtmpilgkfbibhlaaGreatDoor
