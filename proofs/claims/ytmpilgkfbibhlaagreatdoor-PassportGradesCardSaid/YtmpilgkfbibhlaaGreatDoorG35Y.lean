/-
 The modules of the laws' worlds: none is lost, none is in two packs: plain Lean.
-/
import Derived.Test.YtmpilgkfbibhlaaGreatDoorG32Y
set_option linter.unusedSimpArgs false
set_option linter.unusedVariables false
namespace Go.Proofs.YtmpilgkfbibhlaaGreatDoor
open Go
def allM (a : RegA) : List ByteArray := a.ps.flatMap fun p => (lf p).ms
theorem ms_same {x : LifeS} {nm : ByteArray} {e : Evt} (h : e.1 ≠ 1 ∧ e.1 ≠ 5 ∧ e.1 ≠ 6) : (x.add nm e).ms = x.ms := by
 obtain ⟨k, t, ea, eb, n1, ot⟩ := e
 show modStep nm x.ms (k, t, ea, eb, n1, ot) = x.ms
 unfold modStep
 dsimp only at h ⊢
 rw [if_neg h.1, if_neg h.2.1, if_neg h.2.2]
theorem allM_put {a : RegA} {n i : Nat} {e : Evt} {p : ByteArray × List Ent} {z : List ByteArray} (hp : a.ps[i]? = some p) (hz : ((lf p).add p.1 e).ms.Perm (z ++ (lf p).ms)) : (allM (putA a n i e)).Perm (z ++ allM a) := by
 rw [putA_at hp]
 refine flat_set (fun p => (lf p).ms) a.ps i p (putP a n e p) z hp ?_
 show (lf (putP a n e p)).ms.Perm _
 rw [lf_put]
 exact hz
theorem allM_less {a : RegA} {n i : Nat} {e : Evt} {p : ByteArray × List Ent} {z : List ByteArray} (hp : a.ps[i]? = some p) (hz : (lf p).ms.Perm (z ++ ((lf p).add p.1 e).ms)) : (allM a).Perm (z ++ allM (putA a n i e)) := by
 have hi := (List.getElem?_eq_some_iff.1 hp).1
 have h := flat_set (fun p => (lf p).ms) (a.ps.set i (putP a n e p)) i (putP a n e p) p z (List.getElem?_set_self hi) (by show (lf p).ms.Perm (z ++ (lf (putP a n e p)).ms); rw [lf_put]; exact hz)
 have e1 : (a.ps.set i (putP a n e p)).set i p = a.ps := by
  rw [List.set_set]
  refine List.ext_getElem? fun k => ?_
  by_cases c : i = k
  ·subst c; rw [List.getElem?_set_self hi, hp]
  ·rw [List.getElem?_set_ne c]
 rw [e1] at h
 unfold allM
 rw [putA_at hp]
 exact h
theorem drop_perm {l : List ByteArray} {m : ByteArray} (hn : l.Nodup) (hm : m ∈ l) : l.Perm ([m] ++ dropT l m) := by
 induction l with
 | nil => cases hm
 | cons x l ih =>
  obtain ⟨h1, h2⟩ := List.nodup_cons.1 hn
  by_cases c : x = m
  ·subst c
   have : dropT (x :: l) x = l := by
    unfold dropT
    rw [List.filter_cons_of_neg (by rw [eqT_iff.2 rfl]; decide)]
    refine List.filter_eq_self.2 fun y hy => ?_
    have : eqT y x = false := by
     cases h : eqT y x
     ·rfl
     ·exact absurd (eqT_iff.1 h ▸ hy) h1
    rw [this]; rfl
   rw [this]
   exact List.Perm.refl _
  ·have hm' : m ∈ l := by
    rcases List.mem_cons.1 hm with e | e
    ·exact absurd e.symm c
    ·exact e
   have h3 : dropT (x :: l) m = x :: dropT l m := by
    unfold dropT
    have : eqT x m = false := by
     cases h : eqT x m
     ·rfl
     ·exact absurd (eqT_iff.1 h) c
    rw [List.filter_cons_of_pos (by rw [this]; rfl)]
   rw [h3]
   exact ((ih h2 hm').cons x).trans (List.Perm.swap m x _)
theorem nodup_flat {α β : Type} {f : α → List β} : ∀ {l : List α}, (l.flatMap f).Nodup → ∀ {j k : Nat} {x y : α} {m : β}, l[j]? = some x → l[k]? = some y → m ∈ f x → m ∈ f y → j = k
 | [], _, _, _, _, _, _, h, _, _, _ => by cases h
 | z :: l, hn, j, k, x, y, m, hj, hk, hx, hy => by
  rw [List.flatMap_cons] at hn
  obtain ⟨-, h2, h3⟩ := List.nodup_append.1 hn
  cases j with
  | zero =>
   obtain rfl : z = x := by simpa using hj
   cases k with
   | zero => rfl
   | succ k => exact absurd rfl (h3 m hx m (List.mem_flatMap.2 ⟨y, List.mem_of_getElem? (by simpa using hk), hy⟩))
  | succ j =>
   cases k with
   | zero =>
    obtain rfl : z = y := by simpa using hk
    exact absurd rfl (h3 m hy m (List.mem_flatMap.2 ⟨x, List.mem_of_getElem? (by simpa using hj), hx⟩))
   | succ k => exact congrArg Nat.succ (nodup_flat h2 (by simpa using hj) (by simpa using hk) hx hy)
theorem nodup_part {α β : Type} {f : α → List β} : ∀ {l : List α}, (l.flatMap f).Nodup → ∀ {x : α}, x ∈ l → (f x).Nodup
 | z :: l, hn, x, hx => by
  rw [List.flatMap_cons] at hn
  obtain ⟨h1, h2, h3⟩ := List.nodup_append.1 hn
  rcases List.mem_cons.1 hx with rfl | hx
  ·exact h1
  ·exact nodup_part h2 hx
structure ModW (S : WdS) : Prop where
 pm : (allM S.a).Perm S.mods
 nd : S.mods.Nodup
theorem hasT_iff {l : List ByteArray} {s : ByteArray} : hasT l s = true ↔ s ∈ l := by
 unfold hasT
 rw [List.any_eq_true]
 constructor
 ·rintro ⟨x, h1, h2⟩
  have e := eqT_iff.1 (show eqT x s = true from h2)
  rw [← e]
  exact h1
 ·intro h; exact ⟨s, h, eqT_iff.2 rfl⟩
theorem digN_inj {nm : ByteArray} {i j : Nat} (hi : i < 10) (hj : j < 10) (h : digN nm i = digN nm j) : i = j := by
 have e : (digN nm i).data.toList = (digN nm j).data.toList := by rw [h]
 unfold digN ch at e
 simp only [ByteArray.data_append, Array.toList_append, List.append_cancel_left_eq] at e
 have := ofNat_inj (a := 48 + i) (b := 48 + j) (by omega) (by omega) (by simpa using e)
 omega
theorem ModW.zero {pt : Nat} {bks : List Bk} : ModW ⟨newA pt bks, 0, [], [], [], []⟩ := ⟨List.Perm.refl _, List.nodup_nil⟩
theorem made_ms {S : WdS} {x : Sm} : ((lf (nameP S.packs.length, [])).add (nameP S.packs.length) (madeW S x)).ms = (List.range (x.n % 5)).map (digN (nameP S.packs.length)) := by
 show modStep (nameP S.packs.length) [] (madeW S x) = _
 unfold madeW modStep
 dsimp only
 rw [if_pos rfl, Int.toNat_natCast, List.nil_append]
 refine List.map_congr_left fun i hi => ?_
 have := List.mem_range.1 hi
 have : x.n % 5 < 5 := Nat.mod_lt _ (by decide)
 exact (digN_mod _ (by omega)).symm
theorem ModW.same {S S' : WdS} (h : ModW S) (e1 : (allM S'.a).Perm (allM S.a)) (e2 : S'.mods = S.mods) : ModW S' := ⟨by rw [e2]; exact e1.trans h.pm, by rw [e2]; exact h.nd⟩
theorem move_allM {a : RegA} (ho : OkA a) (hn : (allM a).Nodup) (b t : Int) (m to : ByteArray) : (allM (moveA a b t m to).2).Perm (allM a) := by
 rcases move_cases ho b t m to with ⟨c, -, q⟩ | ⟨n, p, x, -, h1, h2, h3, h4, h5, h6, h7, h8, h9, h10, h11, h12, q⟩
 ·rw [q]
 ·rw [q]
  have hm := where_has h2
  have hd := nodup_part (f := fun p : ByteArray × List Ent => (lf p).ms) hn (List.mem_of_getElem? h2)
  have e1 : (allM a).Perm ([m] ++ allM (putA a n (whereA m a) (takeE t m to))) := allM_less h2 (drop_perm hd hm)
  have e2 : (allM (putA (putA a n (whereA m a) (takeE t m to)) n (findA to a) (bringE t m p.1))).Perm ([m] ++ allM (putA a n (whereA m a) (takeE t m to))) := allM_put h11 (show ((lf x).ms ++ [m]).Perm ([m] ++ (lf x).ms) from List.perm_append_comm)
  exact e2.trans e1.symm
theorem keepM (L : List ByteArray) : PutC (fun e => e.1 ≠ 1 ∧ e.1 ≠ 5 ∧ e.1 ≠ 6) (fun a => (allM a).Perm L) := fun a n i e p hK h hp _ _ _ _ _ => by
 have := allM_put (a := a) (n := n) (i := i) (e := e) (z := []) hp (by rw [ms_same hK]; exact List.Perm.refl _)
 exact this.trans h
theorem ModW.do_ {S : WdS} {i : Nat} (ho : OkW S i) (hi : i ≤ 100) (h : ModW S) (x : Sm) : ModW (doW S x) := by
 by_cases h3 : x.do_ % 11 < 3
 ·rcases doW_made ho.ok h3 with q | ⟨n, h1, h2, h4, h5, h6, h7, h8, q⟩
  ·rw [q]; exact ⟨h.pm, h.nd⟩
  ·rw [q]
   have e0 : allM { S.a with ps := S.a.ps ++ [(nameP S.packs.length, [])] } = allM S.a := by
    unfold allM
    show (S.a.ps ++ [(nameP S.packs.length, [])]).flatMap (fun p => (lf p).ms) = _
    rw [List.flatMap_append]
    show _ ++ ([] ++ []) = _
    simp
   have e1 : (allM (madeA S x n)).Perm ((List.range (x.n % 5)).map (digN (nameP S.packs.length)) ++ allM S.a) := by
    have := allM_put (n := n) (e := madeW S x) (z := (List.range (x.n % 5)).map (digN (nameP S.packs.length))) h6 (by rw [made_ms]; show List.Perm _ (_ ++ []); rw [List.append_nil])
    rw [e0] at this
    exact this
   refine ⟨?_, ?_⟩
   ·show (allM (madeA S x n)).Perm (S.mods ++ (List.range (x.n % 5)).map (digN (nameP S.packs.length)))
    exact e1.trans ((h.pm.append_left _).trans List.perm_append_comm)
   ·show (S.mods ++ (List.range (x.n % 5)).map (digN (nameP S.packs.length))).Nodup
    have hn5 : x.n % 5 < 5 := Nat.mod_lt _ (by decide)
    refine List.nodup_append.2 ⟨h.nd, ?_, fun m hm m' hm' e => ?_⟩
    ·refine List.pairwise_map.2 (List.Pairwise.imp_of_mem (fun ha hb hne e => hne (digN_inj (by have := List.mem_range.1 ha; omega) (by have := List.mem_range.1 hb; omega) e)) List.nodup_range)
    ·subst e
     obtain ⟨k, j, hk, hj, e1⟩ := ho.md m hm
     obtain ⟨j', hj', e2⟩ := List.mem_map.1 hm'
     have hj' := List.mem_range.1 hj'
     rw [digN_mod _ (by omega)] at e2
     have c1 := (modN_mod (nameP_ok k) (i := j) (by omega)).2
     have c2 := (modN_mod (nameP_ok S.packs.length) (i := j') (by omega)).2
     rw [← e1] at c1
     rw [e2] at c2
     rw [c1] at c2
     have hnp := ho.np
     have := nameP_inj (m := k) (n := S.packs.length) (by omega) (by omega) c2
     omega
 ·rw [doW_other h3]
  have e1 : (allM (resW S x).2).Perm (allM S.a) := by
   by_cases h6 : 6 ≤ x.do_ % 11 ∧ x.do_ % 11 < 8
   ·have : resW S x = moveA S.a (byW x) (atW S x) (modW S x) (toW S x) := by
     unfold resW
     rw [if_neg h3, if_neg (by omega), if_neg (by omega), if_neg (by omega), if_pos h6.2]
    rw [this]
    exact move_allM ho.ok (h.pm.nodup_iff.2 h.nd) _ _ _ _
   ·exact resW_keep (keepM (allM S.a)) ho.ok (List.Perm.refl _) x (fun e _ _ k1 k5 => ⟨fun c => h3 (k1 c).2, fun c => h6 (k5 (Or.inl c)), fun c => h6 (k5 (Or.inr c))⟩) (fun c => absurd c h3)
  exact h.same e1 rfl
theorem ModW.whr {S : WdS} (h : ModW S) {k : Nat} {p : ByteArray × List Ent} {m : ByteArray} (hp : S.a.ps[k]? = some p) (hm : m ∈ (lf p).ms) : whereA m S.a = k := by
 have hl : whereA m S.a < S.a.ps.length := List.findIdx_lt_length.2 ⟨p, List.mem_of_getElem? hp, hasT_iff.2 hm⟩
 have h1 := List.findIdx_getElem (w := hl)
 exact nodup_flat (f := fun p : ByteArray × List Ent => (lf p).ms) (h.pm.nodup_iff.2 h.nd) (List.getElem?_eq_getElem hl) hp (hasT_iff.1 h1) hm
theorem ModW.has {S : WdS} (h : ModW S) {m : ByteArray} (hm : m ∈ S.mods) : ∃ p, S.a.ps[whereA m S.a]? = some p := by
 obtain ⟨p, h1, h2⟩ := List.mem_flatMap.1 (h.pm.mem_iff.2 hm)
 have hl : whereA m S.a < S.a.ps.length := List.findIdx_lt_length.2 ⟨p, h1, hasT_iff.2 h2⟩
 exact ⟨_, List.getElem?_eq_getElem hl⟩
end Go.Proofs.YtmpilgkfbibhlaaGreatDoor
