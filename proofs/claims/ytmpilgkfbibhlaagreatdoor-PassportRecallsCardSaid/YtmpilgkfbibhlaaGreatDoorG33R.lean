/-
 The laws' worlds: what holds of them; their entries verify: plain Lean.
-/
import Derived.Test.YtmpilgkfbibhlaaGreatDoorG32R
import Derived.Test.YtmpilgkfbibhlaaGreatDoorG20R
import Derived.Test.YtmpilgkfbibhlaaGreatDoorG1R
set_option linter.unusedSimpArgs false
set_option linter.unusedVariables false
namespace Go.Proofs.YtmpilgkfbibhlaaGreatDoor
open Go
structure OkW (S : WdS) (i : Nat) : Prop where
 ok : OkA S.a
 pk : S.a.ps.map (·.1) = S.packs
 nm : ∀ (k : Nat) (q : ByteArray), S.packs[k]? = some q → q = nameP k
 np : S.packs.length ≤ i
 at_ : 0 ≤ S.at_ ∧ S.at_ ≤ 3 * (i : Int)
 ml : S.mods.length ≤ 4 * i
 md : ∀ m ∈ S.mods, ∃ k j, k < S.packs.length ∧ j < 5 ∧ m = modN (nameP k) j
 bl : S.bts.length = S.packs.length
 tl : S.mds.length = S.packs.length
theorem atW_in {S : WdS} {i : Nat} (h : OkW S i) (x : Sm) : S.at_ ≤ atW S x ∧ 0 ≤ atW S x ∧ atW S x ≤ 3 * ((i + 1 : Nat) : Int) := by
 have h1 := h.at_
 have h2 : x.later % 4 < 4 := Nat.mod_lt _ (by decide)
 unfold atW
 omega
theorem resW_nm {S : WdS} (ho : OkA S.a) (x : Sm) (h3 : ¬ x.do_ % 11 < 3) : (resW S x).2.ps.map (·.1) = S.a.ps.map (·.1) := by
 have hC : PutC (fun _ => True) (fun a => a.ps.map (·.1) = S.a.ps.map (·.1)) := fun a n i e p _ h _ _ _ _ _ _ => by show (putA a n i e).ps.map (fun x => x.1) = _; rw [put_nm]; exact h
 exact resW_keep hC ho rfl x (fun e _ _ h1 _ => trivial) (fun hc => absurd hc h3)
theorem doW_other {S : WdS} {x : Sm} (h3 : ¬ x.do_ % 11 < 3) : doW S x = baseW S x := by unfold doW; rw [if_neg (fun c => h3 c.1)]
def madeA (S : WdS) (x : Sm) (n : Nat) : RegA := putA { S.a with ps := S.a.ps ++ [(nameP S.packs.length, [])] } n S.a.ps.length (madeW S x)
theorem doW_made {S : WdS} {x : Sm} (ho : OkA S.a) (h3 : x.do_ % 11 < 3) : doW S x = { S with at_ := atW S x } ∨ ∃ n : Nat, n < S.a.bks.length ∧ okX (madeW S x) = true ∧ S.a.ps.length ≤ findA (nameP S.packs.length) S.a ∧ S.a.used.getD n 0 < (S.a.bks.getD n (0, [])).2.length ∧
  ({ S.a with ps := S.a.ps ++ [(nameP S.packs.length, [])] } : RegA).ps[S.a.ps.length]? = some (nameP S.packs.length, []) ∧ OkB { S.a with ps := S.a.ps ++ [(nameP S.packs.length, [])] } ∧ canP (nameP S.packs.length) (lf (nameP S.packs.length, [])) (madeW S x) = true ∧ doW S x = addW { S with at_ := atW S x, a := madeA S x n } x := by
 have hr : resW S x = enterA S.a (byW x) (nameP S.packs.length) (madeW S x) := by unfold resW; rw [if_pos h3]
 rcases enter_made ho (byW x) (nameP S.packs.length) (madeW S x) rfl with ⟨c, hc, q⟩ | ⟨n, -, h1, h2, h4, h5, h6, h7, h8, h9, q⟩
 ·refine Or.inl ?_
  unfold doW baseW
  rw [hr, q, if_neg (fun z => hc z.2)]
 ·refine Or.inr ⟨n, h1, h4, h5, h6, h7, h8, h9, ?_⟩
  unfold doW baseW
  rw [hr, q, if_pos ⟨h3, rfl⟩]
  rfl
theorem doW_cases {S : WdS} {x : Sm} (ho : OkA S.a) : (doW S x = { S with at_ := atW S x, a := (doW S x).a } ∧ (doW S x).a.ps.map (·.1) = S.a.ps.map (·.1)) ∨ ∃ n : Nat, doW S x = addW { S with at_ := atW S x, a := madeA S x n } x := by
 by_cases h3 : x.do_ % 11 < 3
 ·rcases doW_made ho h3 with q | ⟨n, -, -, -, -, -, -, -, q⟩
  ·exact Or.inl ⟨by rw [q], by rw [q]⟩
  ·exact Or.inr ⟨n, q⟩
 ·rw [doW_other h3]
  exact Or.inl ⟨rfl, resW_nm ho x h3⟩
theorem madeA_nm {S : WdS} {x : Sm} {n : Nat} : (madeA S x n).ps.map (·.1) = S.a.ps.map (·.1) ++ [nameP S.packs.length] := by
 unfold madeA
 rw [put_nm]
 show (S.a.ps ++ [(nameP S.packs.length, [])]).map (fun p : ByteArray × List Ent => p.1) = _
 rw [List.map_append]
 rfl
theorem OkW.zero {pt : Nat} {bks : List Bk} (h : secR pt bks = 0) : OkW ⟨newA pt bks, 0, [], [], [], []⟩ 0 := by
 refine ⟨newA_ok h, rfl, fun k q hq => ?_, Nat.le_refl _, ⟨Int.le_refl 0, Int.le_refl 0⟩, Nat.le_refl _, fun m hm => ?_, rfl, rfl⟩
 ·simp at hq
 ·cases hm
theorem OkW.do_ {S : WdS} {i : Nat} (h : OkW S i) (x : Sm) : OkW (doW S x) (i + 1) := by
 have hat := atW_in h x
 have hok := doW_ok h.ok x
 have hnp := h.np
 have hml := h.ml
 rcases doW_cases (x := x) h.ok with ⟨q, hn⟩ | ⟨n, q⟩
 ·rw [q] at hok ⊢
  exact ⟨hok, hn.trans h.pk, h.nm, by show S.packs.length ≤ i + 1; omega, ⟨hat.2.1, hat.2.2⟩, by show S.mods.length ≤ 4 * (i + 1); omega, h.md, h.bl, h.tl⟩
 ·rw [q] at hok ⊢
  have hn5 : x.n % 5 < 5 := Nat.mod_lt _ (by decide)
  refine ⟨hok, ?_, fun k y hk => ?_, ?_, ⟨hat.2.1, hat.2.2⟩, ?_, fun m hm => ?_, ?_, ?_⟩
  ·show (madeA S x n).ps.map (·.1) = S.packs ++ [nameP S.packs.length]
   rw [madeA_nm, h.pk]
  ·change (S.packs ++ [nameP S.packs.length])[k]? = some y at hk
   rcases Nat.lt_or_ge k S.packs.length with c | c
   ·rw [List.getElem?_append_left c] at hk; exact h.nm k y hk
   ·rw [List.getElem?_append_right c] at hk
    have h1 := (List.getElem?_eq_some_iff.1 hk).1
    simp at h1
    have h2 : k = S.packs.length := by omega
    subst h2
    simp at hk
    exact hk.symm
  ·show (S.packs ++ [nameP S.packs.length]).length ≤ i + 1
   simp; omega
  ·show (S.mods ++ (List.range (x.n % 5)).map (digN (nameP S.packs.length))).length ≤ 4 * (i + 1)
   simp; omega
  ·change m ∈ S.mods ++ (List.range (x.n % 5)).map (digN (nameP S.packs.length)) at hm
   have hl : (S.packs ++ [nameP S.packs.length]).length = S.packs.length + 1 := by simp
   show ∃ k j, k < (S.packs ++ [nameP S.packs.length]).length ∧ j < 5 ∧ m = modN (nameP k) j
   rw [hl]
   rcases List.mem_append.1 hm with hm | hm
   ·obtain ⟨k, j, h1, h2, h3⟩ := h.md m hm
    exact ⟨k, j, by omega, h2, h3⟩
   ·obtain ⟨j, hj, rfl⟩ := List.mem_map.1 hm
    have := List.mem_range.1 hj
    exact ⟨S.packs.length, j, by omega, by omega, digN_mod _ (by omega)⟩
  ·show (S.bts ++ [batchP x.t]).length = (S.packs ++ [nameP S.packs.length]).length
   have := h.bl
   simp; omega
  ·show (S.mds ++ [_]).length = (S.packs ++ [nameP S.packs.length]).length
   have := h.tl
   simp; omega
theorem pick_in {l : List ByteArray} {k : Nat} {d : ByteArray} : pickT l k d = d ∨ pickT l k d ∈ l := by
 unfold pickT
 split
 ·exact Or.inl rfl
 ·rename_i hl
  have hlt : k % l.length < l.length := Nat.mod_lt _ (by omega)
  rw [List.getD_eq_getElem?_getD, List.getElem?_eq_getElem hlt]
  exact Or.inr (List.getElem_mem hlt)
theorem OkW.names {S : WdS} {i : Nat} (h : OkW S i) {q : ByteArray} (hq : q ∈ S.packs) : ∃ k, k < S.packs.length ∧ q = nameP k := by
 obtain ⟨k, hk⟩ := List.getElem?_of_mem hq
 exact ⟨k, (List.getElem?_eq_some_iff.1 hk).1, h.nm k q hk⟩
theorem OkW.sizes {S : WdS} {i : Nat} (h : OkW S i) (hi : i ≤ 60) (x : Sm) : (0 ≤ S.at_ ∧ S.at_ ≤ 1000000) ∧ (S.packs.length ≤ 1000 ∧ S.mods.length ≤ 10000) ∧ (packW S x).size ≤ 1000000 ∧ (toW S x).size ≤ 1000000 ∧ (modW S x).size ≤ 1000000 := by
 have h1 := h.at_
 have h2 := h.np
 have h3 := h.ml
 have hp : ∀ k : Nat, (pickT S.packs k noneT).size ≤ 1000000 := fun k => by
  rcases pick_in (l := S.packs) (k := k) (d := noneT) with c | c
  ·rw [c]; decide
  ·obtain ⟨j, -, e⟩ := h.names c
   rw [e]
   have := (nameB_size (nameP_ok j)).2
   omega
 refine ⟨⟨h1.1, by omega⟩, ⟨by omega, by omega⟩, hp _, hp _, ?_⟩
 rcases pick_in (l := S.mods) (k := x.m) (d := none0) with c | c
 ·unfold modW; rw [c]; decide
 ·obtain ⟨k, j, -, hj, e⟩ := h.md _ c
  unfold modW
  rw [e]
  have := modB_size (modN_mod (nameP_ok k) (i := j) (by omega)).1
  omega
theorem OkW.at {S : WdS} {i : Nat} (h : OkW S i) {k : Nat} {q : ByteArray} (hk : S.packs[k]? = some q) : ∃ es, S.a.ps[k]? = some (q, es) ∧ findA q S.a = k := by
 rw [← h.pk, List.getElem?_map] at hk
 cases hp : S.a.ps[k]? with
 | none => rw [hp] at hk; cases hk
 | some p =>
  rw [hp] at hk
  obtain rfl : p.1 = q := Option.some.inj hk
  refine ⟨p.2, rfl, ?_⟩
  have hl : findA p.1 S.a < S.a.ps.length := List.findIdx_lt_length.2 ⟨p, List.mem_of_getElem? hp, eqT_iff.2 rfl⟩
  have h1 := List.findIdx_getElem (w := hl)
  exact h.ok.nm _ k _ p (List.getElem?_eq_getElem hl) hp (eqT_iff.1 h1)
structure VerI (a : RegA) : Prop where
 pd : PadI a
 v : ∀ p ∈ a.ps, AllR a.pt a.bks p.1 p.2 p.2.length
theorem AllR.app {pt : Nat} {bks : List Bk} {name : ByteArray} {l r : List Ent} {n : Nat} (h : AllR pt bks name l n) (hn : n ≤ l.length) : AllR pt bks name (l ++ r) n := fun i hi => by
 obtain ⟨x, hx, hr⟩ := h i hi
 exact ⟨x, by rw [List.getElem?_append_left (by omega)]; exact hx, by rw [List.take_append_of_le_length (by omega)]; exact hr⟩
theorem mem_allE {a : RegA} {p : ByteArray × List Ent} (hp : p ∈ a.ps) {y : Ent} (hy : y ∈ p.2) : y ∈ allE a := List.mem_flatMap.2 ⟨p, hp, hy⟩
theorem new_right {a : RegA} {n i : Nat} {e : Evt} {p : ByteArray × List Ent} (h : PadI a) (ho : OkB a) (hp : a.ps[i]? = some p) (hok : okX e = true) (hcan : canP p.1 (lf p) e = true) (hn : n < a.bks.length) (hu : a.used.getD n 0 < (a.bks.getD n (0, [])).2.length) : rightB a.pt a.bks p.1 p.2 (newE a n e p) = true := by
 have hpm := List.mem_of_getElem? hp
 have hL := (ho.p p hpm).2.1
 have hc : canR p.1 (evsOf p.2) e = true := by rw [← can_same hL]; exact hcan
 have hb : inBook a.bks (n : Int) ((a.used.getD n 0 : Nat) : Int) = true := by
  unfold inBook
  rw [Int.toNat_natCast]
  exact decide_eq_true ⟨by omega, by omega, by omega, by omega⟩
 have hq : pairIn p.2 (n : Int) ((a.used.getD n 0 : Nat) : Int) = false := by
  unfold pairIn
  refine List.any_eq_false.2 fun y hy c => ?_
  obtain ⟨n', k', e1, e2, e3, e4⟩ := h.rg y (mem_allE hpm hy)
  rw [Bool.and_eq_true, beq_iff_eq, beq_iff_eq] at c
  have : n' = n := by omega
  subst this
  omega
 have hx : nextE a.pt a.bks (headOf a.pt p.1 p.2) e (n : Int).toNat ((a.used.getD n 0 : Nat) : Int).toNat = newE a n e p := by rw [Int.toNat_natCast, Int.toNat_natCast]; rfl
 show (okX e && canR p.1 (evsOf p.2) e && inBook a.bks (n : Int) ((a.used.getD n 0 : Nat) : Int) && !(pairIn p.2 (n : Int) ((a.used.getD n 0 : Nat) : Int)) && decide (nextE a.pt a.bks (headOf a.pt p.1 p.2) e (n : Int).toNat ((a.used.getD n 0 : Nat) : Int).toNat = newE a n e p)) = true
 rw [hok, hc, hb, hq, hx]
 simp
theorem VerI.put : PutC (fun _ => True) VerI := by
 intro a n i e p hK h hp hok hcan hn hu ho
 refine ⟨PadI.put a n i e p hK h.pd hp hok hcan hn hu ho, fun q hq => ?_⟩
 rw [putA_bks.1, putA_bks.2]
 obtain ⟨j, hj⟩ := List.getElem?_of_mem hq
 by_cases c : j = i
 ·subst c
  rw [putA_eq hp] at hj
  obtain rfl := Option.some.inj hj
  show AllR a.pt a.bks p.1 (p.2 ++ [newE a n e p]) (p.2 ++ [newE a n e p]).length
  rw [List.length_append, List.length_singleton]
  refine ((h.v p (List.mem_of_getElem? hp)).app (Nat.le_refl _)).snoc (x := newE a n e p) (by simp) ?_
  rw [List.take_left']
  ·exact new_right h.pd ho hp hok hcan hn hu
  ·rfl
 ·rw [putA_ne c] at hj
  exact h.v q (List.mem_of_getElem? hj)
theorem VerI.addP {a : RegA} (h : VerI a) (nm : ByteArray) : VerI { a with ps := a.ps ++ [(nm, [])] } := by
 refine ⟨h.pd.addP nm, fun p hp => ?_⟩
 rcases List.mem_append.1 hp with hp | hp
 ·exact h.v p hp
 ·obtain rfl := List.mem_singleton.1 hp
  exact AllR.zero
theorem VerI.zero {pt : Nat} {bks : List Bk} (hb : bks.length = 3) : VerI (newA pt bks) := ⟨PadI.zero hb, fun p hp => by cases hp⟩
theorem VerI.res {S : WdS} (ho : OkA S.a) (h : VerI S.a) (x : Sm) : VerI (resW S x).2 := resW_keep VerI.put ho h x (fun _ _ _ _ _ => trivial) fun _ _ => h.addP _
theorem VerI.do_ {S : WdS} (ho : OkA S.a) (h : VerI S.a) (x : Sm) : VerI (doW S x).a := by
 unfold doW
 split
 ·exact h.res ho x
 ·exact h.res ho x
theorem VerI.all {a : RegA} (h : VerI a) {p : ByteArray × List Ent} (hp : p ∈ a.ps) : verN a.pt a.bks p.1 [] p.2 = p.2.length := (h.v p hp).all
end Go.Proofs.YtmpilgkfbibhlaaGreatDoor
namespace Go.Proofs.YtmpilgkfbibhlaaGreatDoor
open Go
def allM (a : RegA) : List ByteArray := a.ps.flatMap fun p => (lf p).ms
theorem ms_same {x : LifeS} {nm : ByteArray} {e : Evt} (h : e.1 ≠ 1 ∧ e.1 ≠ 5 ∧ e.1 ≠ 6) : (x.add nm e).ms = x.ms := by
 obtain ⟨k, t, ea, eb, n1, ot⟩ := e
 show modStep nm x.ms (k, t, ea, eb, n1, ot) = x.ms
 unfold modStep
 dsimp only at h ⊢
 rw [if_neg h.1, if_neg h.2.1, if_neg h.2.2]
theorem allM_put {a : RegA} {n i : Nat} {e : Evt} {p : ByteArray × List Ent} {z : List ByteArray} (hp : a.ps[i]? = some p) (hz : ((lf p).add p.1 e).ms.Perm (z ++ (lf p).ms)) : (allM (putA a n i e)).Perm (z ++ allM a) := by
 rw [putA_at hp]
 refine flat_set (fun p => (lf p).ms) a.ps i p (putP a n e p) z hp ?_
 show (lf (putP a n e p)).ms.Perm _
 rw [lf_put]
 exact hz
theorem allM_less {a : RegA} {n i : Nat} {e : Evt} {p : ByteArray × List Ent} {z : List ByteArray} (hp : a.ps[i]? = some p) (hz : (lf p).ms.Perm (z ++ ((lf p).add p.1 e).ms)) : (allM a).Perm (z ++ allM (putA a n i e)) := by
 have hi := (List.getElem?_eq_some_iff.1 hp).1
 have h := flat_set (fun p => (lf p).ms) (a.ps.set i (putP a n e p)) i (putP a n e p) p z (List.getElem?_set_self hi) (by show (lf p).ms.Perm (z ++ (lf (putP a n e p)).ms); rw [lf_put]; exact hz)
 have e1 : (a.ps.set i (putP a n e p)).set i p = a.ps := by
  rw [List.set_set]
  refine List.ext_getElem? fun k => ?_
  by_cases c : i = k
  ·subst c; rw [List.getElem?_set_self hi, hp]
  ·rw [List.getElem?_set_ne c]
 rw [e1] at h
 unfold allM
 rw [putA_at hp]
 exact h
theorem drop_perm {l : List ByteArray} {m : ByteArray} (hn : l.Nodup) (hm : m ∈ l) : l.Perm ([m] ++ dropT l m) := by
 induction l with
 | nil => cases hm
 | cons x l ih =>
  obtain ⟨h1, h2⟩ := List.nodup_cons.1 hn
  by_cases c : x = m
  ·subst c
   have : dropT (x :: l) x = l := by
    unfold dropT
    rw [List.filter_cons_of_neg (by rw [eqT_iff.2 rfl]; decide)]
    refine List.filter_eq_self.2 fun y hy => ?_
    have : eqT y x = false := by
     cases h : eqT y x
     ·rfl
     ·exact absurd (eqT_iff.1 h ▸ hy) h1
    rw [this]; rfl
   rw [this]
   exact List.Perm.refl _
  ·have hm' : m ∈ l := by
    rcases List.mem_cons.1 hm with e | e
    ·exact absurd e.symm c
    ·exact e
   have h3 : dropT (x :: l) m = x :: dropT l m := by
    unfold dropT
    have : eqT x m = false := by
     cases h : eqT x m
     ·rfl
     ·exact absurd (eqT_iff.1 h) c
    rw [List.filter_cons_of_pos (by rw [this]; rfl)]
   rw [h3]
   exact ((ih h2 hm').cons x).trans (List.Perm.swap m x _)
theorem nodup_part {α β : Type} {f : α → List β} : ∀ {l : List α}, (l.flatMap f).Nodup → ∀ {x : α}, x ∈ l → (f x).Nodup
 | z :: l, hn, x, hx => by
  rw [List.flatMap_cons] at hn
  obtain ⟨h1, h2, h3⟩ := List.nodup_append.1 hn
  rcases List.mem_cons.1 hx with rfl | hx
  ·exact h1
  ·exact nodup_part h2 hx
structure ModW (S : WdS) : Prop where
 pm : (allM S.a).Perm S.mods
 nd : S.mods.Nodup
theorem hasT_iff {l : List ByteArray} {s : ByteArray} : hasT l s = true ↔ s ∈ l := by
 unfold hasT
 rw [List.any_eq_true]
 constructor
 ·rintro ⟨x, h1, h2⟩
  have e := eqT_iff.1 (show eqT x s = true from h2)
  rw [← e]
  exact h1
 ·intro h; exact ⟨s, h, eqT_iff.2 rfl⟩
theorem digN_inj {nm : ByteArray} {i j : Nat} (hi : i < 10) (hj : j < 10) (h : digN nm i = digN nm j) : i = j := by
 have e : (digN nm i).data.toList = (digN nm j).data.toList := by rw [h]
 unfold digN ch at e
 simp only [ByteArray.data_append, Array.toList_append, List.append_cancel_left_eq] at e
 have := ofNat_inj (a := 48 + i) (b := 48 + j) (by omega) (by omega) (by simpa using e)
 omega
theorem ModW.zero {pt : Nat} {bks : List Bk} : ModW ⟨newA pt bks, 0, [], [], [], []⟩ := ⟨List.Perm.refl _, List.nodup_nil⟩
theorem made_ms {S : WdS} {x : Sm} : ((lf (nameP S.packs.length, [])).add (nameP S.packs.length) (madeW S x)).ms = (List.range (x.n % 5)).map (digN (nameP S.packs.length)) := by
 show modStep (nameP S.packs.length) [] (madeW S x) = _
 unfold madeW modStep
 dsimp only
 rw [if_pos rfl, Int.toNat_natCast, List.nil_append]
 refine List.map_congr_left fun i hi => ?_
 have := List.mem_range.1 hi
 have : x.n % 5 < 5 := Nat.mod_lt _ (by decide)
 exact (digN_mod _ (by omega)).symm
theorem ModW.same {S S' : WdS} (h : ModW S) (e1 : (allM S'.a).Perm (allM S.a)) (e2 : S'.mods = S.mods) : ModW S' := ⟨by rw [e2]; exact e1.trans h.pm, by rw [e2]; exact h.nd⟩
theorem move_allM {a : RegA} (ho : OkA a) (hn : (allM a).Nodup) (b t : Int) (m to : ByteArray) : (allM (moveA a b t m to).2).Perm (allM a) := by
 rcases move_cases ho b t m to with ⟨c, -, q⟩ | ⟨n, p, x, -, h1, h2, h3, h4, h5, h6, h7, h8, h9, h10, h11, h12, q⟩
 ·rw [q]
 ·rw [q]
  have hm := where_has h2
  have hd := nodup_part (f := fun p : ByteArray × List Ent => (lf p).ms) hn (List.mem_of_getElem? h2)
  have e1 : (allM a).Perm ([m] ++ allM (putA a n (whereA m a) (takeE t m to))) := allM_less h2 (drop_perm hd hm)
  have e2 : (allM (putA (putA a n (whereA m a) (takeE t m to)) n (findA to a) (bringE t m p.1))).Perm ([m] ++ allM (putA a n (whereA m a) (takeE t m to))) := allM_put h11 (show ((lf x).ms ++ [m]).Perm ([m] ++ (lf x).ms) from List.perm_append_comm)
  exact e2.trans e1.symm
theorem keepM (L : List ByteArray) : PutC (fun e => e.1 ≠ 1 ∧ e.1 ≠ 5 ∧ e.1 ≠ 6) (fun a => (allM a).Perm L) := fun a n i e p hK h hp _ _ _ _ _ => by
 have := allM_put (a := a) (n := n) (i := i) (e := e) (z := []) hp (by rw [ms_same hK]; exact List.Perm.refl _)
 exact this.trans h
theorem ModW.do_ {S : WdS} {i : Nat} (ho : OkW S i) (hi : i ≤ 100) (h : ModW S) (x : Sm) : ModW (doW S x) := by
 by_cases h3 : x.do_ % 11 < 3
 ·rcases doW_made ho.ok h3 with q | ⟨n, h1, h2, h4, h5, h6, h7, h8, q⟩
  ·rw [q]; exact ⟨h.pm, h.nd⟩
  ·rw [q]
   have e0 : allM { S.a with ps := S.a.ps ++ [(nameP S.packs.length, [])] } = allM S.a := by
    unfold allM
    show (S.a.ps ++ [(nameP S.packs.length, [])]).flatMap (fun p => (lf p).ms) = _
    rw [List.flatMap_append]
    show _ ++ ([] ++ []) = _
    simp
   have e1 : (allM (madeA S x n)).Perm ((List.range (x.n % 5)).map (digN (nameP S.packs.length)) ++ allM S.a) := by
    have := allM_put (n := n) (e := madeW S x) (z := (List.range (x.n % 5)).map (digN (nameP S.packs.length))) h6 (by rw [made_ms]; show List.Perm _ (_ ++ []); rw [List.append_nil])
    rw [e0] at this
    exact this
   refine ⟨?_, ?_⟩
   ·show (allM (madeA S x n)).Perm (S.mods ++ (List.range (x.n % 5)).map (digN (nameP S.packs.length)))
    exact e1.trans ((h.pm.append_left _).trans List.perm_append_comm)
   ·show (S.mods ++ (List.range (x.n % 5)).map (digN (nameP S.packs.length))).Nodup
    have hn5 : x.n % 5 < 5 := Nat.mod_lt _ (by decide)
    refine List.nodup_append.2 ⟨h.nd, ?_, fun m hm m' hm' e => ?_⟩
    ·refine List.pairwise_map.2 (List.Pairwise.imp_of_mem (fun ha hb hne e => hne (digN_inj (by have := List.mem_range.1 ha; omega) (by have := List.mem_range.1 hb; omega) e)) List.nodup_range)
    ·subst e
     obtain ⟨k, j, hk, hj, e1⟩ := ho.md m hm
     obtain ⟨j', hj', e2⟩ := List.mem_map.1 hm'
     have hj' := List.mem_range.1 hj'
     rw [digN_mod _ (by omega)] at e2
     have c1 := (modN_mod (nameP_ok k) (i := j) (by omega)).2
     have c2 := (modN_mod (nameP_ok S.packs.length) (i := j') (by omega)).2
     rw [← e1] at c1
     rw [e2] at c2
     rw [c1] at c2
     have hnp := ho.np
     have := nameP_inj (m := k) (n := S.packs.length) (by omega) (by omega) c2
     omega
 ·rw [doW_other h3]
  have e1 : (allM (resW S x).2).Perm (allM S.a) := by
   by_cases h6 : 6 ≤ x.do_ % 11 ∧ x.do_ % 11 < 8
   ·have : resW S x = moveA S.a (byW x) (atW S x) (modW S x) (toW S x) := by
     unfold resW
     rw [if_neg h3, if_neg (by omega), if_neg (by omega), if_neg (by omega), if_pos h6.2]
    rw [this]
    exact move_allM ho.ok (h.pm.nodup_iff.2 h.nd) _ _ _ _
   ·exact resW_keep (keepM (allM S.a)) ho.ok (List.Perm.refl _) x (fun e _ _ k1 k5 => ⟨fun c => h3 (k1 c).2, fun c => h6 (k5 (Or.inl c)), fun c => h6 (k5 (Or.inr c))⟩) (fun c => absurd c h3)
  exact h.same e1 rfl
end Go.Proofs.YtmpilgkfbibhlaaGreatDoor
namespace Go.Proofs.YtmpilgkfbibhlaaGreatDoor
open Sx Go.RowKit Mr
theorem RegV.low {B B' R : Nat} {vb vp : Value} {a : RegA} {g : RegS} {W : World} (h : RegV B R vb a g vp W) (hB : B' ≤ B) : RegV B' R vb a g vp W := by
 obtain ⟨⟨h1, h2, h3, h4, h5, h6, h7, h8⟩, h9, h10⟩ := h
 exact ⟨⟨h1, h2, h3, own_low h4 hB, h5, fun q hq => own_low (h6 q hq) hB, h7, Nat.le_trans hB h8⟩, h9, h10⟩
theorem RegAt.setOther {B R P o : Nat} {g : RegS} {vb vp u : Value} {W : World} {T : TypeId} {cs : Array Value} {fr : Nat × Nat} (h : RegAt B R g vb vp W) (hc : W.heap[P]? = some (.cells cs T fr)) (hT : T = 50 ∨ T = 29) : RegAt B R g vb vp (W.setCell ⟨P, o, none⟩ u) := by
 have hne : ∀ E : TypeId, E = 121 ∨ E = 116 ∨ E = 31 ∨ E = 9 ∨ E = 85 ∨ E = 22 → T ≠ E := fun E hE c => by
  subst c
  rcases hT with rfl | rfl <;> (revert hE; decide)
 have hK : ∀ (b : Nat) (cs2 : Array Value) (E : TypeId) (fr2 : Nat × Nat), W.heap[b]? = some (.cells cs2 E fr2) → T ≠ E → (W.setCell ⟨P, o, none⟩ u).heap[b]? = some (.cells cs2 E fr2) := fun b cs2 E fr2 e n => by
  refine blk_set_other e (fun c => ?_)
  have c2 : b = P := c
  subst c2
  rw [hc] at e
  cases e
  exact n rfl
 obtain ⟨h1, h2, ⟨ab, cb, h3, h4⟩, h5, h6, h7, h8, h9⟩ := h
 refine ⟨hK _ _ _ _ h1 (hne _ (by simp)), h2, ⟨ab, cb, h3, fun hn => ?_⟩, own_setT h5 hc (hne _ (by simp)), fun q hq => ?_, fun q hq => own_setT (h7 q hq) hc (hne _ (by simp)), h8, h9⟩
 ·obtain ⟨b, off, cs, fr, e1, e2, e3⟩ := h4 hn
  refine ⟨b, off, cs, fr, e1, hK _ _ _ _ e2 (hne _ (by simp)), fun k bk hk => ?_⟩
  obtain ⟨q1, vq, q2, a9, c9, q3, q4⟩ := e3 k bk hk
  refine ⟨q1, vq, q2, a9, c9, q3, fun hn2 => ?_⟩
  obtain ⟨b2, off2, cs2, fr2, d1, d2, d3⟩ := q4 hn2
  exact ⟨b2, off2, cs2, fr2, d1, hK _ _ _ _ d2 (hne _ (by simp)), d3⟩
 ·obtain ⟨q1, q2, q3⟩ := h6 q hq
  have key : ∀ (b : Nat) (cs2 : Array Value) (fr2 : Nat × Nat), W.heap[b]? = some (Obj.cells cs2 9 fr2) → (W.setCell ⟨P, o, none⟩ u).heap[b]? = W.heap[b]? := fun b cs2 fr2 e => (hK _ _ _ _ e (hne _ (by simp))).trans e.symm
  exact ⟨q1.keep key, q2.keep key, q3⟩
theorem RegV.setOther {B R P o : Nat} {a : RegA} {g : RegS} {vb vp u : Value} {W : World} {T : TypeId} {cs : Array Value} {fr : Nat × Nat} (h : RegV B R vb a g vp W) (hc : W.heap[P]? = some (.cells cs T fr)) (hT : T = 50 ∨ T = 29) : RegV B R vb a g vp (W.setCell ⟨P, o, none⟩ u) := ⟨h.ra.setOther hc hT, h.abs, h.lf⟩
def wdC (R : Nat) (vk : Value) (t : Int) (vpk vmd vbt vmk : Value) : Array Value := #[.pointer (some ⟨R, 0, none⟩), vk, .int .i64 t, vpk, vmd, vbt, vmk]
def strC (l : List ByteArray) : List Value := l.map Value.string
def BkT (v : Value) (bks : List Bk) (W : World) : Prop := ∃ ab cb, v = .slice ab bks.length cb ∧ BksT ab bks W
theorem BkT.keep {v : Value} {bks : List Bk} {W w2 : World} (h : BkT v bks W) (hK : ∀ (b : Nat) (cs : Array Value) (T : TypeId) (fr : Nat × Nat), W.heap[b]? = some (.cells cs T fr) → (T = 85 ∨ T = 22) → w2.heap[b]? = some (.cells cs T fr)) : BkT v bks w2 := by
 obtain ⟨ab, cb, h1, h2⟩ := h
 refine ⟨ab, cb, h1, fun hn => ?_⟩
 obtain ⟨b, off, cs, fr, e1, e2, e3⟩ := h2 hn
 refine ⟨b, off, cs, fr, e1, hK _ _ _ _ e2 (Or.inl rfl), fun k bk hk => ?_⟩
 obtain ⟨q1, vq, q2, a9, c9, q3, q4⟩ := e3 k bk hk
 refine ⟨q1, vq, q2, a9, c9, q3, fun hn2 => ?_⟩
 obtain ⟨b2, off2, cs2, fr2, d1, d2, d3⟩ := q4 hn2
 exact ⟨b2, off2, cs2, fr2, d1, hK _ _ _ _ d2 (Or.inr rfl), d3⟩
theorem BkT.step {v : Value} {bks : List Bk} {W w2 : World} (h : BkT v bks W) (hb : Below W.heap.size W w2) : BkT v bks w2 := h.keep fun b cs T fr e _ => blk_step e hb
theorem BkT.keepT {v : Value} {bks : List Bk} {W w2 : World} (h : BkT v bks W) (hK : KeepT W w2) : BkT v bks w2 := h.keep fun b cs T fr e hT => hK b cs T fr e (by rcases hT with rfl | rfl <;> decide) (by rcases hT with rfl | rfl <;> decide) (by rcases hT with rfl | rfl <;> decide)
theorem BkT.setO {v u : Value} {bks : List Bk} {W : World} {P o : Nat} {T : TypeId} {cs : Array Value} {fr : Nat × Nat} (h : BkT v bks W) (hc : W.heap[P]? = some (.cells cs T fr)) (h1 : T ≠ 85) (h2 : T ≠ 22) : BkT v bks (W.setCell ⟨P, o, none⟩ u) := h.keep fun b cs2 E fr2 e hE => by
 refine blk_set_other e (fun c => ?_)
 have c2 : b = P := c
 subst c2
 rw [hc] at e
 cases e
 rcases hE with rfl | rfl
 ·exact h1 rfl
 ·exact h2 rfl
structure WdAt (w0 : World) (Wd R : Nat) (vb vk : Value) (bks : List Bk) (S : WdS) (g : RegS) (vp vpk vmd vbt vmk : Value) (W : World) : Prop where
 bel : Below w0.heap.size w0 W
 hW : w0.heap.size ≤ Wd
 v : RegV w0.heap.size R vb S.a g vp W
 blk : W.heap[Wd]? = some (.cells (wdC R vk S.at_ vpk vmd vbt vmk) 50 (0, 0))
 bk : BkT vk bks W
 pk : W.ownsRow w0.heap.size 9 1 vpk S.packs.length (strC S.packs)
 md : W.ownsRow w0.heap.size 9 1 vmd S.mods.length (strC S.mods)
 bt : W.ownsRow w0.heap.size 9 1 vbt S.bts.length (strC S.bts)
 tm : W.ownsRow w0.heap.size 2 1 vmk S.mds.length (S.mds.map (Value.int .i64))
 f1 : Far vpk vmd
 f2 : Far vpk vbt
 f3 : Far vmd vbt
 n1 : ∀ k, vpk.ownBlock = some k → NoS k g
 n2 : ∀ k, vmd.ownBlock = some k → NoS k g
 n3 : ∀ k, vbt.ownBlock = some k → NoS k g
def WdE (w0 : World) (Wd R : Nat) (vb vk : Value) (bks : List Bk) (S : WdS) (W : World) : Prop := ∃ g vp vpk vmd vbt vmk, WdAt w0 Wd R vb vk bks S g vp vpk vmd vbt vmk W
section
variable {w0 W w2 : World} {Wd R : Nat} {vb vk vp vpk vmd vbt vmk : Value} {bks : List Bk} {S : WdS} {g : RegS}
theorem WdAt.step (h : WdAt w0 Wd R vb vk bks S g vp vpk vmd vbt vmk W) (hb : Below W.heap.size W w2) : WdAt w0 Wd R vb vk bks S g vp vpk vmd vbt vmk w2 :=
 ⟨bStep h.bel hb, h.hW, h.v.step hb, blk_step h.blk hb, h.bk.step hb, own_step h.pk hb, own_step h.md hb, own_step h.bt hb, own_step h.tm hb, h.f1, h.f2, h.f3, h.n1, h.n2, h.n3⟩
theorem WdE.step (h : WdE w0 Wd R vb vk bks S W) (hb : Below W.heap.size W w2) : WdE w0 Wd R vb vk bks S w2 := by
 obtain ⟨g, vp, vpk, vmd, vbt, vmk, h⟩ := h
 exact ⟨_, _, _, _, _, _, h.step hb⟩
theorem WdAt.moved {a' : RegA} (h : WdAt w0 Wd R vb vk bks S g vp vpk vmd vbt vmk W) (hN : RegN w0.heap.size R vb a' g vp W w2) : WdE w0 Wd R vb vk bks { S with a := a' } w2 := by
 obtain ⟨g', vp', h1, h2⟩ := hN
 have hK := h2.keepT h.v.ra
 have hb := Moved.below h.v.ra h.bel.size h2
 refine ⟨g', vp', vpk, vmd, vbt, vmk, ⟨⟨hb.os.trans h.bel.os, hb.tape.trans h.bel.tape, hb.output.trans h.bel.output, Nat.le_trans h.bel.size hb.size, fun k hk => (hb.block k hk).trans (h.bel.block k hk)⟩, h.hW, h1, hK _ _ _ _ h.blk (by decide) (by decide) (by decide), h.bk.keepT hK, own_keptT h.pk hK (by decide) (by decide) (by decide), own_keptT h.md hK (by decide) (by decide) (by decide), own_keptT h.bt hK (by decide) (by decide) (by decide), own_keptT h.tm hK (by decide) (by decide) (by decide), h.f1, h.f2, h.f3, fun k hk => ?_, fun k hk => ?_, fun k hk => ?_⟩⟩
 ·exact h2.ns k (World.ownsRow.lt h.pk k hk).2 (h.n1 k hk)
 ·exact h2.ns k (World.ownsRow.lt h.md k hk).2 (h.n2 k hk)
 ·exact h2.ns k (World.ownsRow.lt h.bt k hk).2 (h.n3 k hk)
theorem WdAt.setEv {E o : Nat} {u : Value} {cs : Array Value} {fr : Nat × Nat} (h : WdAt w0 Wd R vb vk bks S g vp vpk vmd vbt vmk W) (hc : W.heap[E]? = some (.cells cs 29 fr)) (hE : w0.heap.size ≤ E) (hn : Wd ≠ E) : WdAt w0 Wd R vb vk bks S g vp vpk vmd vbt vmk (W.setCell ⟨E, o, none⟩ u) :=
 ⟨h.bel.setCell hE _, h.hW, h.v.setOther hc (Or.inr rfl), blk_set_other h.blk hn, h.bk.setO hc (by decide) (by decide), own_setT h.pk hc (by decide), own_setT h.md hc (by decide), own_setT h.bt hc (by decide), own_setT h.tm hc (by decide), h.f1, h.f2, h.f3, h.n1, h.n2, h.n3⟩
theorem WdAt.setAt {t : Int} (h : WdAt w0 Wd R vb vk bks S g vp vpk vmd vbt vmk W) : WdAt w0 Wd R vb vk bks { S with at_ := t } g vp vpk vmd vbt vmk (W.setCell ⟨Wd, 2, none⟩ (.int .i64 t)) :=
 ⟨h.bel.setCell h.hW _, h.hW, h.v.setOther h.blk (Or.inl rfl), blk_set h.blk, h.bk.setO h.blk (by decide) (by decide), own_setT h.pk h.blk (by decide), own_setT h.md h.blk (by decide), own_setT h.bt h.blk (by decide), own_setT h.tm h.blk (by decide), h.f1, h.f2, h.f3, h.n1, h.n2, h.n3⟩
end
structure OneV (P C0 C1 : World → Prop) (val : Value) (b : Bool) (v : Value) (W : World) : Prop where
 p : P W
 a : b = false → C0 W
 z : b = true → C1 W
 r : b = true → v = val
end Go.Proofs.YtmpilgkfbibhlaaGreatDoor
