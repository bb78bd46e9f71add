/-
 The laws' worlds: what holds of them; their entries verify: plain Lean.
-/
import Derived.Test.YtmpilgkfbibhlaaGreatDoorG31Y
import Derived.Test.YtmpilgkfbibhlaaGreatDoorG19Y
import Derived.Test.YtmpilgkfbibhlaaGreatDoorG1Y
import Derived.Test.YtmpilgkfbibhlaaGreatDoorG28Y
import Derived.Test.YtmpilgkfbibhlaaGreatDoorG0Y
set_option linter.unusedSimpArgs false
set_option linter.unusedVariables false
namespace Go.Proofs.YtmpilgkfbibhlaaGreatDoor
open Go
structure OkW (S : WdS) (i : Nat) : Prop where
 ok : OkA S.a
 pk : S.a.ps.map (·.1) = S.packs
 nm : ∀ (k : Nat) (q : ByteArray), S.packs[k]? = some q → q = nameP k
 np : S.packs.length ≤ i
 at_ : 0 ≤ S.at_ ∧ S.at_ ≤ 3 * (i : Int)
 ml : S.mods.length ≤ 4 * i
 md : ∀ m ∈ S.mods, ∃ k j, k < S.packs.length ∧ j < 5 ∧ m = modN (nameP k) j
 bl : S.bts.length = S.packs.length
 tl : S.mds.length = S.packs.length
theorem atW_in {S : WdS} {i : Nat} (h : OkW S i) (x : Sm) : S.at_ ≤ atW S x ∧ 0 ≤ atW S x ∧ atW S x ≤ 3 * ((i + 1 : Nat) : Int) := by
 have h1 := h.at_
 have h2 : x.later % 4 < 4 := Nat.mod_lt _ (by decide)
 unfold atW
 omega
theorem resW_nm {S : WdS} (ho : OkA S.a) (x : Sm) (h3 : ¬ x.do_ % 11 < 3) : (resW S x).2.ps.map (·.1) = S.a.ps.map (·.1) := by
 have hC : PutC (fun _ => True) (fun a => a.ps.map (·.1) = S.a.ps.map (·.1)) := fun a n i e p _ h _ _ _ _ _ _ => by show (putA a n i e).ps.map (fun x => x.1) = _; rw [put_nm]; exact h
 exact resW_keep hC ho rfl x (fun e _ _ h1 _ => trivial) (fun hc => absurd hc h3)
theorem doW_other {S : WdS} {x : Sm} (h3 : ¬ x.do_ % 11 < 3) : doW S x = baseW S x := by unfold doW; rw [if_neg (fun c => h3 c.1)]
def madeA (S : WdS) (x : Sm) (n : Nat) : RegA := putA { S.a with ps := S.a.ps ++ [(nameP S.packs.length, [])] } n S.a.ps.length (madeW S x)
theorem doW_made {S : WdS} {x : Sm} (ho : OkA S.a) (h3 : x.do_ % 11 < 3) : doW S x = { S with at_ := atW S x } ∨ ∃ n : Nat, n < S.a.bks.length ∧ okX (madeW S x) = true ∧ S.a.ps.length ≤ findA (nameP S.packs.length) S.a ∧ S.a.used.getD n 0 < (S.a.bks.getD n (0, [])).2.length ∧
  ({ S.a with ps := S.a.ps ++ [(nameP S.packs.length, [])] } : RegA).ps[S.a.ps.length]? = some (nameP S.packs.length, []) ∧ OkB { S.a with ps := S.a.ps ++ [(nameP S.packs.length, [])] } ∧ canP (nameP S.packs.length) (lf (nameP S.packs.length, [])) (madeW S x) = true ∧ doW S x = addW { S with at_ := atW S x, a := madeA S x n } x := by
 have hr : resW S x = enterA S.a (byW x) (nameP S.packs.length) (madeW S x) := by unfold resW; rw [if_pos h3]
 rcases enter_made ho (byW x) (nameP S.packs.length) (madeW S x) rfl with ⟨c, hc, q⟩ | ⟨n, -, h1, h2, h4, h5, h6, h7, h8, h9, q⟩
 ·refine Or.inl ?_
  unfold doW baseW
  rw [hr, q, if_neg (fun z => hc z.2)]
 ·refine Or.inr ⟨n, h1, h4, h5, h6, h7, h8, h9, ?_⟩
  unfold doW baseW
  rw [hr, q, if_pos ⟨h3, rfl⟩]
  rfl
theorem doW_cases {S : WdS} {x : Sm} (ho : OkA S.a) : (doW S x = { S with at_ := atW S x, a := (doW S x).a } ∧ (doW S x).a.ps.map (·.1) = S.a.ps.map (·.1)) ∨ ∃ n : Nat, doW S x = addW { S with at_ := atW S x, a := madeA S x n } x := by
 by_cases h3 : x.do_ % 11 < 3
 ·rcases doW_made ho h3 with q | ⟨n, -, -, -, -, -, -, -, q⟩
  ·exact Or.inl ⟨by rw [q], by rw [q]⟩
  ·exact Or.inr ⟨n, q⟩
 ·rw [doW_other h3]
  exact Or.inl ⟨rfl, resW_nm ho x h3⟩
theorem madeA_nm {S : WdS} {x : Sm} {n : Nat} : (madeA S x n).ps.map (·.1) = S.a.ps.map (·.1) ++ [nameP S.packs.length] := by
 unfold madeA
 rw [put_nm]
 show (S.a.ps ++ [(nameP S.packs.length, [])]).map (fun p : ByteArray × List Ent => p.1) = _
 rw [List.map_append]
 rfl
theorem OkW.zero {pt : Nat} {bks : List Bk} (h : secR pt bks = 0) : OkW ⟨newA pt bks, 0, [], [], [], []⟩ 0 := by
 refine ⟨newA_ok h, rfl, fun k q hq => ?_, Nat.le_refl _, ⟨Int.le_refl 0, Int.le_refl 0⟩, Nat.le_refl _, fun m hm => ?_, rfl, rfl⟩
 ·simp at hq
 ·cases hm
theorem OkW.do_ {S : WdS} {i : Nat} (h : OkW S i) (x : Sm) : OkW (doW S x) (i + 1) := by
 have hat := atW_in h x
 have hok := doW_ok h.ok x
 have hnp := h.np
 have hml := h.ml
 rcases doW_cases (x := x) h.ok with ⟨q, hn⟩ | ⟨n, q⟩
 ·rw [q] at hok ⊢
  exact ⟨hok, hn.trans h.pk, h.nm, by show S.packs.length ≤ i + 1; omega, ⟨hat.2.1, hat.2.2⟩, by show S.mods.length ≤ 4 * (i + 1); omega, h.md, h.bl, h.tl⟩
 ·rw [q] at hok ⊢
  have hn5 : x.n % 5 < 5 := Nat.mod_lt _ (by decide)
  refine ⟨hok, ?_, fun k y hk => ?_, ?_, ⟨hat.2.1, hat.2.2⟩, ?_, fun m hm => ?_, ?_, ?_⟩
  ·show (madeA S x n).ps.map (·.1) = S.packs ++ [nameP S.packs.length]
   rw [madeA_nm, h.pk]
  ·change (S.packs ++ [nameP S.packs.length])[k]? = some y at hk
   rcases Nat.lt_or_ge k S.packs.length with c | c
   ·rw [List.getElem?_append_left c] at hk; exact h.nm k y hk
   ·rw [List.getElem?_append_right c] at hk
    have h1 := (List.getElem?_eq_some_iff.1 hk).1
    simp at h1
    have h2 : k = S.packs.length := by omega
    subst h2
    simp at hk
    exact hk.symm
  ·show (S.packs ++ [nameP S.packs.length]).length ≤ i + 1
   simp; omega
  ·show (S.mods ++ (List.range (x.n % 5)).map (digN (nameP S.packs.length))).length ≤ 4 * (i + 1)
   simp; omega
  ·change m ∈ S.mods ++ (List.range (x.n % 5)).map (digN (nameP S.packs.length)) at hm
   have hl : (S.packs ++ [nameP S.packs.length]).length = S.packs.length + 1 := by simp
   show ∃ k j, k < (S.packs ++ [nameP S.packs.length]).length ∧ j < 5 ∧ m = modN (nameP k) j
   rw [hl]
   rcases List.mem_append.1 hm with hm | hm
   ·obtain ⟨k, j, h1, h2, h3⟩ := h.md m hm
    exact ⟨k, j, by omega, h2, h3⟩
   ·obtain ⟨j, hj, rfl⟩ := List.mem_map.1 hm
    have := List.mem_range.1 hj
    exact ⟨S.packs.length, j, by omega, by omega, digN_mod _ (by omega)⟩
  ·show (S.bts ++ [batchP x.t]).length = (S.packs ++ [nameP S.packs.length]).length
   have := h.bl
   simp; omega
  ·show (S.mds ++ [_]).length = (S.packs ++ [nameP S.packs.length]).length
   have := h.tl
   simp; omega
theorem pick_in {l : List ByteArray} {k : Nat} {d : ByteArray} : pickT l k d = d ∨ pickT l k d ∈ l := by
 unfold pickT
 split
 ·exact Or.inl rfl
 ·rename_i hl
  have hlt : k % l.length < l.length := Nat.mod_lt _ (by omega)
  rw [List.getD_eq_getElem?_getD, List.getElem?_eq_getElem hlt]
  exact Or.inr (List.getElem_mem hlt)
theorem OkW.names {S : WdS} {i : Nat} (h : OkW S i) {q : ByteArray} (hq : q ∈ S.packs) : ∃ k, k < S.packs.length ∧ q = nameP k := by
 obtain ⟨k, hk⟩ := List.getElem?_of_mem hq
 exact ⟨k, (List.getElem?_eq_some_iff.1 hk).1, h.nm k q hk⟩
theorem OkW.sizes {S : WdS} {i : Nat} (h : OkW S i) (hi : i ≤ 60) (x : Sm) : (0 ≤ S.at_ ∧ S.at_ ≤ 1000000) ∧ (S.packs.length ≤ 1000 ∧ S.mods.length ≤ 10000) ∧ (packW S x).size ≤ 1000000 ∧ (toW S x).size ≤ 1000000 ∧ (modW S x).size ≤ 1000000 := by
 have h1 := h.at_
 have h2 := h.np
 have h3 := h.ml
 have hp : ∀ k : Nat, (pickT S.packs k noneT).size ≤ 1000000 := fun k => by
  rcases pick_in (l := S.packs) (k := k) (d := noneT) with c | c
  ·rw [c]; decide
  ·obtain ⟨j, -, e⟩ := h.names c
   rw [e]
   have := (nameB_size (nameP_ok j)).2
   omega
 refine ⟨⟨h1.1, by omega⟩, ⟨by omega, by omega⟩, hp _, hp _, ?_⟩
 rcases pick_in (l := S.mods) (k := x.m) (d := none0) with c | c
 ·unfold modW; rw [c]; decide
 ·obtain ⟨k, j, -, hj, e⟩ := h.md _ c
  unfold modW
  rw [e]
  have := modB_size (modN_mod (nameP_ok k) (i := j) (by omega)).1
  omega
theorem OkW.at {S : WdS} {i : Nat} (h : OkW S i) {k : Nat} {q : ByteArray} (hk : S.packs[k]? = some q) : ∃ es, S.a.ps[k]? = some (q, es) ∧ findA q S.a = k := by
 rw [← h.pk, List.getElem?_map] at hk
 cases hp : S.a.ps[k]? with
 | none => rw [hp] at hk; cases hk
 | some p =>
  rw [hp] at hk
  obtain rfl : p.1 = q := Option.some.inj hk
  refine ⟨p.2, rfl, ?_⟩
  have hl : findA p.1 S.a < S.a.ps.length := List.findIdx_lt_length.2 ⟨p, List.mem_of_getElem? hp, eqT_iff.2 rfl⟩
  have h1 := List.findIdx_getElem (w := hl)
  exact h.ok.nm _ k _ p (List.getElem?_eq_getElem hl) hp (eqT_iff.1 h1)
structure VerI (a : RegA) : Prop where
 pd : PadI a
 v : ∀ p ∈ a.ps, AllR a.pt a.bks p.1 p.2 p.2.length
theorem AllR.app {pt : Nat} {bks : List Bk} {name : ByteArray} {l r : List Ent} {n : Nat} (h : AllR pt bks name l n) (hn : n ≤ l.length) : AllR pt bks name (l ++ r) n := fun i hi => by
 obtain ⟨x, hx, hr⟩ := h i hi
 exact ⟨x, by rw [List.getElem?_append_left (by omega)]; exact hx, by rw [List.take_append_of_le_length (by omega)]; exact hr⟩
theorem mem_allE {a : RegA} {p : ByteArray × List Ent} (hp : p ∈ a.ps) {y : Ent} (hy : y ∈ p.2) : y ∈ allE a := List.mem_flatMap.2 ⟨p, hp, hy⟩
theorem new_right {a : RegA} {n i : Nat} {e : Evt} {p : ByteArray × List Ent} (h : PadI a) (ho : OkB a) (hp : a.ps[i]? = some p) (hok : okX e = true) (hcan : canP p.1 (lf p) e = true) (hn : n < a.bks.length) (hu : a.used.getD n 0 < (a.bks.getD n (0, [])).2.length) : rightB a.pt a.bks p.1 p.2 (newE a n e p) = true := by
 have hpm := List.mem_of_getElem? hp
 have hL := (ho.p p hpm).2.1
 have hc : canR p.1 (evsOf p.2) e = true := by rw [← can_same hL]; exact hcan
 have hb : inBook a.bks (n : Int) ((a.used.getD n 0 : Nat) : Int) = true := by
  unfold inBook
  rw [Int.toNat_natCast]
  exact decide_eq_true ⟨by omega, by omega, by omega, by omega⟩
 have hq : pairIn p.2 (n : Int) ((a.used.getD n 0 : Nat) : Int) = false := by
  unfold pairIn
  refine List.any_eq_false.2 fun y hy c => ?_
  obtain ⟨n', k', e1, e2, e3, e4⟩ := h.rg y (mem_allE hpm hy)
  rw [Bool.and_eq_true, beq_iff_eq, beq_iff_eq] at c
  have : n' = n := by omega
  subst this
  omega
 have hx : nextE a.pt a.bks (headOf a.pt p.1 p.2) e (n : Int).toNat ((a.used.getD n 0 : Nat) : Int).toNat = newE a n e p := by rw [Int.toNat_natCast, Int.toNat_natCast]; rfl
 show (okX e && canR p.1 (evsOf p.2) e && inBook a.bks (n : Int) ((a.used.getD n 0 : Nat) : Int) && !(pairIn p.2 (n : Int) ((a.used.getD n 0 : Nat) : Int)) && decide (nextE a.pt a.bks (headOf a.pt p.1 p.2) e (n : Int).toNat ((a.used.getD n 0 : Nat) : Int).toNat = newE a n e p)) = true
 rw [hok, hc, hb, hq, hx]
 simp
theorem VerI.put : PutC (fun _ => True) VerI := by
 intro a n i e p hK h hp hok hcan hn hu ho
 refine ⟨PadI.put a n i e p hK h.pd hp hok hcan hn hu ho, fun q hq => ?_⟩
 rw [putA_bks.1, putA_bks.2]
 obtain ⟨j, hj⟩ := List.getElem?_of_mem hq
 by_cases c : j = i
 ·subst c
  rw [putA_eq hp] at hj
  obtain rfl := Option.some.inj hj
  show AllR a.pt a.bks p.1 (p.2 ++ [newE a n e p]) (p.2 ++ [newE a n e p]).length
  rw [List.length_append, List.length_singleton]
  refine ((h.v p (List.mem_of_getElem? hp)).app (Nat.le_refl _)).snoc (x := newE a n e p) (by simp) ?_
  rw [List.take_left']
  ·exact new_right h.pd ho hp hok hcan hn hu
  ·rfl
 ·rw [putA_ne c] at hj
  exact h.v q (List.mem_of_getElem? hj)
theorem VerI.addP {a : RegA} (h : VerI a) (nm : ByteArray) : VerI { a with ps := a.ps ++ [(nm, [])] } := by
 refine ⟨h.pd.addP nm, fun p hp => ?_⟩
 rcases List.mem_append.1 hp with hp | hp
 ·exact h.v p hp
 ·obtain rfl := List.mem_singleton.1 hp
  exact AllR.zero
theorem VerI.zero {pt : Nat} {bks : List Bk} (hb : bks.length = 3) : VerI (newA pt bks) := ⟨PadI.zero hb, fun p hp => by cases hp⟩
theorem VerI.res {S : WdS} (ho : OkA S.a) (h : VerI S.a) (x : Sm) : VerI (resW S x).2 := resW_keep VerI.put ho h x (fun _ _ _ _ _ => trivial) fun _ _ => h.addP _
theorem VerI.do_ {S : WdS} (ho : OkA S.a) (h : VerI S.a) (x : Sm) : VerI (doW S x).a := by
 unfold doW
 split
 ·exact h.res ho x
 ·exact h.res ho x
theorem VerI.all {a : RegA} (h : VerI a) {p : ByteArray × List Ent} (hp : p ∈ a.ps) : verN a.pt a.bks p.1 [] p.2 = p.2.length := (h.v p hp).all
end Go.Proofs.YtmpilgkfbibhlaaGreatDoor
namespace Go.Proofs.YtmpilgkfbibhlaaGreatDoor
open Sx Go.RowKit Mr
theorem RegV.low {B B' R : Nat} {vb vp : Value} {a : RegA} {g : RegS} {W : World} (h : RegV B R vb a g vp W) (hB : B' ≤ B) : RegV B' R vb a g vp W := by
 obtain ⟨⟨h1, h2, h3, h4, h5, h6, h7, h8⟩, h9, h10⟩ := h
 exact ⟨⟨h1, h2, h3, own_low h4 hB, h5, fun q hq => own_low (h6 q hq) hB, h7, Nat.le_trans hB h8⟩, h9, h10⟩
theorem RegAt.setOther {B R P o : Nat} {g : RegS} {vb vp u : Value} {W : World} {T : TypeId} {cs : Array Value} {fr : Nat × Nat} (h : RegAt B R g vb vp W) (hc : W.heap[P]? = some (.cells cs T fr)) (hT : T = 50 ∨ T = 29) : RegAt B R g vb vp (W.setCell ⟨P, o, none⟩ u) := by
 have hne : ∀ E : TypeId, E = 121 ∨ E = 116 ∨ E = 31 ∨ E = 9 ∨ E = 85 ∨ E = 22 → T ≠ E := fun E hE c => by
  subst c
  rcases hT with rfl | rfl <;> (revert hE; decide)
 have hK : ∀ (b : Nat) (cs2 : Array Value) (E : TypeId) (fr2 : Nat × Nat), W.heap[b]? = some (.cells cs2 E fr2) → T ≠ E → (W.setCell ⟨P, o, none⟩ u).heap[b]? = some (.cells cs2 E fr2) := fun b cs2 E fr2 e n => by
  refine blk_set_other e (fun c => ?_)
  have c2 : b = P := c
  subst c2
  rw [hc] at e
  cases e
  exact n rfl
 obtain ⟨h1, h2, ⟨ab, cb, h3, h4⟩, h5, h6, h7, h8, h9⟩ := h
 refine ⟨hK _ _ _ _ h1 (hne _ (by simp)), h2, ⟨ab, cb, h3, fun hn => ?_⟩, own_setT h5 hc (hne _ (by simp)), fun q hq => ?_, fun q hq => own_setT (h7 q hq) hc (hne _ (by simp)), h8, h9⟩
 ·obtain ⟨b, off, cs, fr, e1, e2, e3⟩ := h4 hn
  refine ⟨b, off, cs, fr, e1, hK _ _ _ _ e2 (hne _ (by simp)), fun k bk hk => ?_⟩
  obtain ⟨q1, vq, q2, a9, c9, q3, q4⟩ := e3 k bk hk
  refine ⟨q1, vq, q2, a9, c9, q3, fun hn2 => ?_⟩
  obtain ⟨b2, off2, cs2, fr2, d1, d2, d3⟩ := q4 hn2
  exact ⟨b2, off2, cs2, fr2, d1, hK _ _ _ _ d2 (hne _ (by simp)), d3⟩
 ·obtain ⟨q1, q2, q3⟩ := h6 q hq
  have key : ∀ (b : Nat) (cs2 : Array Value) (fr2 : Nat × Nat), W.heap[b]? = some (Obj.cells cs2 9 fr2) → (W.setCell ⟨P, o, none⟩ u).heap[b]? = W.heap[b]? := fun b cs2 fr2 e => (hK _ _ _ _ e (hne _ (by simp))).trans e.symm
  exact ⟨q1.keep key, q2.keep key, q3⟩
theorem RegV.setOther {B R P o : Nat} {a : RegA} {g : RegS} {vb vp u : Value} {W : World} {T : TypeId} {cs : Array Value} {fr : Nat × Nat} (h : RegV B R vb a g vp W) (hc : W.heap[P]? = some (.cells cs T fr)) (hT : T = 50 ∨ T = 29) : RegV B R vb a g vp (W.setCell ⟨P, o, none⟩ u) := ⟨h.ra.setOther hc hT, h.abs, h.lf⟩
def wdC (R : Nat) (vk : Value) (t : Int) (vpk vmd vbt vmk : Value) : Array Value := #[.pointer (some ⟨R, 0, none⟩), vk, .int .i64 t, vpk, vmd, vbt, vmk]
def strC (l : List ByteArray) : List Value := l.map Value.string
def BkT (v : Value) (bks : List Bk) (W : World) : Prop := ∃ ab cb, v = .slice ab bks.length cb ∧ BksT ab bks W
theorem BkT.keep {v : Value} {bks : List Bk} {W w2 : World} (h : BkT v bks W) (hK : ∀ (b : Nat) (cs : Array Value) (T : TypeId) (fr : Nat × Nat), W.heap[b]? = some (.cells cs T fr) → (T = 85 ∨ T = 22) → w2.heap[b]? = some (.cells cs T fr)) : BkT v bks w2 := by
 obtain ⟨ab, cb, h1, h2⟩ := h
 refine ⟨ab, cb, h1, fun hn => ?_⟩
 obtain ⟨b, off, cs, fr, e1, e2, e3⟩ := h2 hn
 refine ⟨b, off, cs, fr, e1, hK _ _ _ _ e2 (Or.inl rfl), fun k bk hk => ?_⟩
 obtain ⟨q1, vq, q2, a9, c9, q3, q4⟩ := e3 k bk hk
 refine ⟨q1, vq, q2, a9, c9, q3, fun hn2 => ?_⟩
 obtain ⟨b2, off2, cs2, fr2, d1, d2, d3⟩ := q4 hn2
 exact ⟨b2, off2, cs2, fr2, d1, hK _ _ _ _ d2 (Or.inr rfl), d3⟩
theorem BkT.step {v : Value} {bks : List Bk} {W w2 : World} (h : BkT v bks W) (hb : Below W.heap.size W w2) : BkT v bks w2 := h.keep fun b cs T fr e _ => blk_step e hb
theorem BkT.keepT {v : Value} {bks : List Bk} {W w2 : World} (h : BkT v bks W) (hK : KeepT W w2) : BkT v bks w2 := h.keep fun b cs T fr e hT => hK b cs T fr e (by rcases hT with rfl | rfl <;> decide) (by rcases hT with rfl | rfl <;> decide) (by rcases hT with rfl | rfl <;> decide)
theorem BkT.setO {v u : Value} {bks : List Bk} {W : World} {P o : Nat} {T : TypeId} {cs : Array Value} {fr : Nat × Nat} (h : BkT v bks W) (hc : W.heap[P]? = some (.cells cs T fr)) (h1 : T ≠ 85) (h2 : T ≠ 22) : BkT v bks (W.setCell ⟨P, o, none⟩ u) := h.keep fun b cs2 E fr2 e hE => by
 refine blk_set_other e (fun c => ?_)
 have c2 : b = P := c
 subst c2
 rw [hc] at e
 cases e
 rcases hE with rfl | rfl
 ·exact h1 rfl
 ·exact h2 rfl
structure WdAt (w0 : World) (Wd R : Nat) (vb vk : Value) (bks : List Bk) (S : WdS) (g : RegS) (vp vpk vmd vbt vmk : Value) (W : World) : Prop where
 bel : Below w0.heap.size w0 W
 hW : w0.heap.size ≤ Wd
 v : RegV w0.heap.size R vb S.a g vp W
 blk : W.heap[Wd]? = some (.cells (wdC R vk S.at_ vpk vmd vbt vmk) 50 (0, 0))
 bk : BkT vk bks W
 pk : W.ownsRow w0.heap.size 9 1 vpk S.packs.length (strC S.packs)
 md : W.ownsRow w0.heap.size 9 1 vmd S.mods.length (strC S.mods)
 bt : W.ownsRow w0.heap.size 9 1 vbt S.bts.length (strC S.bts)
 tm : W.ownsRow w0.heap.size 2 1 vmk S.mds.length (S.mds.map (Value.int .i64))
 f1 : Far vpk vmd
 f2 : Far vpk vbt
 f3 : Far vmd vbt
 n1 : ∀ k, vpk.ownBlock = some k → NoS k g
 n2 : ∀ k, vmd.ownBlock = some k → NoS k g
 n3 : ∀ k, vbt.ownBlock = some k → NoS k g
def WdE (w0 : World) (Wd R : Nat) (vb vk : Value) (bks : List Bk) (S : WdS) (W : World) : Prop := ∃ g vp vpk vmd vbt vmk, WdAt w0 Wd R vb vk bks S g vp vpk vmd vbt vmk W
section
variable {w0 W w2 : World} {Wd R : Nat} {vb vk vp vpk vmd vbt vmk : Value} {bks : List Bk} {S : WdS} {g : RegS}
theorem WdAt.step (h : WdAt w0 Wd R vb vk bks S g vp vpk vmd vbt vmk W) (hb : Below W.heap.size W w2) : WdAt w0 Wd R vb vk bks S g vp vpk vmd vbt vmk w2 :=
 ⟨bStep h.bel hb, h.hW, h.v.step hb, blk_step h.blk hb, h.bk.step hb, own_step h.pk hb, own_step h.md hb, own_step h.bt hb, own_step h.tm hb, h.f1, h.f2, h.f3, h.n1, h.n2, h.n3⟩
theorem WdE.step (h : WdE w0 Wd R vb vk bks S W) (hb : Below W.heap.size W w2) : WdE w0 Wd R vb vk bks S w2 := by
 obtain ⟨g, vp, vpk, vmd, vbt, vmk, h⟩ := h
 exact ⟨_, _, _, _, _, _, h.step hb⟩
theorem WdAt.moved {a' : RegA} (h : WdAt w0 Wd R vb vk bks S g vp vpk vmd vbt vmk W) (hN : RegN w0.heap.size R vb a' g vp W w2) : WdE w0 Wd R vb vk bks { S with a := a' } w2 := by
 obtain ⟨g', vp', h1, h2⟩ := hN
 have hK := h2.keepT h.v.ra
 have hb := Moved.below h.v.ra h.bel.size h2
 refine ⟨g', vp', vpk, vmd, vbt, vmk, ⟨⟨hb.os.trans h.bel.os, hb.tape.trans h.bel.tape, hb.output.trans h.bel.output, Nat.le_trans h.bel.size hb.size, fun k hk => (hb.block k hk).trans (h.bel.block k hk)⟩, h.hW, h1, hK _ _ _ _ h.blk (by decide) (by decide) (by decide), h.bk.keepT hK, own_keptT h.pk hK (by decide) (by decide) (by decide), own_keptT h.md hK (by decide) (by decide) (by decide), own_keptT h.bt hK (by decide) (by decide) (by decide), own_keptT h.tm hK (by decide) (by decide) (by decide), h.f1, h.f2, h.f3, fun k hk => ?_, fun k hk => ?_, fun k hk => ?_⟩⟩
 ·exact h2.ns k (World.ownsRow.lt h.pk k hk).2 (h.n1 k hk)
 ·exact h2.ns k (World.ownsRow.lt h.md k hk).2 (h.n2 k hk)
 ·exact h2.ns k (World.ownsRow.lt h.bt k hk).2 (h.n3 k hk)
theorem WdAt.setEv {E o : Nat} {u : Value} {cs : Array Value} {fr : Nat × Nat} (h : WdAt w0 Wd R vb vk bks S g vp vpk vmd vbt vmk W) (hc : W.heap[E]? = some (.cells cs 29 fr)) (hE : w0.heap.size ≤ E) (hn : Wd ≠ E) : WdAt w0 Wd R vb vk bks S g vp vpk vmd vbt vmk (W.setCell ⟨E, o, none⟩ u) :=
 ⟨h.bel.setCell hE _, h.hW, h.v.setOther hc (Or.inr rfl), blk_set_other h.blk hn, h.bk.setO hc (by decide) (by decide), own_setT h.pk hc (by decide), own_setT h.md hc (by decide), own_setT h.bt hc (by decide), own_setT h.tm hc (by decide), h.f1, h.f2, h.f3, h.n1, h.n2, h.n3⟩
theorem WdAt.setAt {t : Int} (h : WdAt w0 Wd R vb vk bks S g vp vpk vmd vbt vmk W) : WdAt w0 Wd R vb vk bks { S with at_ := t } g vp vpk vmd vbt vmk (W.setCell ⟨Wd, 2, none⟩ (.int .i64 t)) :=
 ⟨h.bel.setCell h.hW _, h.hW, h.v.setOther h.blk (Or.inl rfl), blk_set h.blk, h.bk.setO h.blk (by decide) (by decide), own_setT h.pk h.blk (by decide), own_setT h.md h.blk (by decide), own_setT h.bt h.blk (by decide), own_setT h.tm h.blk (by decide), h.f1, h.f2, h.f3, h.n1, h.n2, h.n3⟩
end
structure OneV (P C0 C1 : World → Prop) (val : Value) (b : Bool) (v : Value) (W : World) : Prop where
 p : P W
 a : b = false → C0 W
 z : b = true → C1 W
 r : b = true → v = val
end Go.Proofs.YtmpilgkfbibhlaaGreatDoor
namespace Go.Proofs.YtmpilgkfbibhlaaGreatDoor
open Sx Go.RowKit Mr
def padW (s i k : Nat) : Nat := (s + 1) * (k + 3) * (k + 5 * i + 1) % 2147483647
def padsW (s i n : Nat) : List Nat := (List.range n).map (padW s i)
def bookW (s i : Nat) : Bk := (1000 + 7 * i + s, padsW s i 400)
def booksW (s n : Nat) : List Bk := (List.range n).map (bookW s)
theorem padsW_len (s i n : Nat) : (padsW s i n).length = n := by unfold padsW; rw [List.length_map, List.length_range]
theorem booksW_len (s n : Nat) : (booksW s n).length = n := by unfold booksW; rw [List.length_map, List.length_range]
theorem padsW_snoc (s i n : Nat) : padsW s i (n + 1) = padsW s i n ++ [padW s i n] := by unfold padsW; rw [List.range_succ, List.map_append]; rfl
theorem booksW_snoc (s n : Nat) : booksW s (n + 1) = booksW s n ++ [bookW s n] := by unfold booksW; rw [List.range_succ, List.map_append]; rfl
theorem secW (s : Nat) (hs : s < 256) : secR 123456789 (booksW s 3) = 0 := by
 have hb : (booksW s 3).any badBk = false := by
  refine List.any_eq_false.2 fun bk hbk => ?_
  obtain ⟨i, hi, rfl⟩ := List.mem_map.1 hbk
  have hi := List.mem_range.1 hi
  have hp : (padsW s i 400).any (fun n => decide (P31 ≤ n)) = false := by
   refine List.any_eq_false.2 fun n hn => ?_
   obtain ⟨k, -, rfl⟩ := List.mem_map.1 hn
   have : padW s i k < 2147483647 := Nat.mod_lt _ (by decide)
   unfold P31
   simpa using this
  show ¬ (decide (1000 + 7 * i + s < 1) || decide (P31 ≤ 1000 + 7 * i + s) || decide (5000 < (padsW s i 400).length) || (padsW s i 400).any fun n => decide (P31 ≤ n)) = true
  rw [hp, padsW_len]
  have h1 : decide (1000 + 7 * i + s < 1) = false := decide_eq_false (by omega)
  have h2 : decide (P31 ≤ 1000 + 7 * i + s) = false := decide_eq_false (by unfold P31; omega)
  rw [h1, h2]
  decide
 unfold secR
 rw [if_neg (by unfold P31; omega), if_neg (by rw [booksW_len, hb]; rintro (c | c | c); omega; omega; cases c)]
structure FiB (w1 : World) (B s i k : Nat) (v : Value) (W : World) : Prop where
 bel : Below w1.heap.size w1 W
 hB : w1.heap.size ≤ B
 b : W.heap[B]? = some (.cells #[.int .u64 ((bookW s i).1 : Int), v] 85 (0, 0))
 o : W.ownsRow w1.heap.size 22 1 v k (padC (padsW s i k))
theorem oneU (i : Int) : ∀ u ∈ [Value.int .u64 i], u.oneCell' = true := by
 intro u hu
 simp at hu
 subst hu
 rfl
theorem FiB.app {w1 W W5 : World} {B s i k : Nat} {v v' : Value} (h : FiB w1 B s i k v W) (hg : W.grownBy W5 v.ownBlock) (ho : W5.ownsRow w1.heap.size 22 1 v' (k + 1) (padC (padsW s i k) ++ [.int .u64 (padW s i k : Int)])) : W5.heap[B]? = some (.cells #[.int .u64 ((bookW s i).1 : Int), v] 85 (0, 0)) ∧ FiB w1 B s i (k + 1) v' (W5.setCell ⟨B, 1, none⟩ v') := by
 have hb5 := blk_kept h.b hg h.o (by decide)
 refine ⟨hb5, (h.bel.grown hg h.bel.size fun q hq => (World.ownsRow.lt h.o q hq).1).setCell h.hB _, h.hB, blk_set hb5, ?_⟩
 have e : padC (padsW s i (k + 1)) = padC (padsW s i k) ++ [.int .u64 (padW s i k : Int)] := by rw [padsW_snoc]; unfold padC; rw [List.map_append]; rfl
 rw [e]
 exact own_setT ho hb5 (by decide)
theorem FiB.step {w1 W w2 : World} {B s i k : Nat} {v : Value} (h : FiB w1 B s i k v W) (hb : Below W.heap.size W w2) : FiB w1 B s i k v w2 := ⟨bStep h.bel hb, h.hB, blk_step h.b hb, own_step h.o hb⟩
theorem FiB.start (w1 : World) (s i : Nat) (hi : i < 3) (hs : s < 256) : FiB w1 w1.heap.size s i 0 (.slice none 0 0) (w1.alloc (.cells #[.int .u64 (1000 + 7 * (i : Int) + (s : Int)), .slice none 0 0] 85)) := by
 refine ⟨bAl, Nat.le_refl _, ?_, ⟨rfl, Or.inl ⟨rfl, rfl⟩⟩⟩
 have e : ((bookW s i).1 : Int) = 1000 + 7 * (i : Int) + (s : Int) := by
  have h0 : (bookW s i).1 = 1000 + 7 * i + s := rfl
  rw [h0]
  omega
 rw [e]
 exact blk_new w1 _
theorem padW_val (s i k : Nat) : ((s : Int) + 1) * ((k : Int) + 3) * ((k : Int) + 5 * (i : Int) + 1) = (((s + 1) * (k + 3) * (k + 5 * i + 1) : Nat) : Int) := by push_cast; rfl
theorem padW_bound {s i k : Nat} (hs : s < 256) (hi : i < 3) (hk : k < 400) : (s + 1) * (k + 3) ≤ 256 * 402 ∧ (s + 1) * (k + 3) * (k + 5 * i + 1) ≤ 256 * 402 * 410 := by
 have h1 : (s + 1) * (k + 3) ≤ 256 * 402 := Nat.mul_le_mul (by omega) (by omega)
 exact ⟨h1, Nat.mul_le_mul h1 (by omega)⟩
theorem BkO.add {w w1 W W5 : World} {B s i : Nat} {vb v v' : Value} (h : BkO w.heap.size (booksW s i) vb w1) (hw : Below w.heap.size w w1) (hF : FiB w1 B s i 400 v W) (hg : W.grownBy W5 vb.ownBlock) (l : List (Bk × Value)) (hl : l.map (·.1) = booksW s i) (ho0 : W.ownsRow w.heap.size 85 2 vb i (flatB l)) (hps : ∀ x ∈ l, W.ownsRow w.heap.size 22 1 x.2 x.1.2.length (padC x.1.2))
  (ho : W5.ownsRow w.heap.size 85 2 v' (i + 1) (flatB l ++ [.int .u64 ((bookW s i).1 : Int), v])) : BkO w.heap.size (booksW s (i + 1)) v' W5 := by
 refine ⟨⟨l ++ [(bookW s i, v)], by rw [List.map_append, hl, booksW_snoc]; rfl, ?_, fun x hx => ?_⟩⟩
 ·rw [booksW_len, flatB_snoc]
  exact ho
 ·rcases List.mem_append.1 hx with hx | hx
  ·exact own_kept (hps x hx) hg ho0 (by decide)
  ·obtain rfl := List.mem_singleton.1 hx
   show W5.ownsRow w.heap.size 22 1 v (padsW s i 400).length (padC (padsW s i 400))
   rw [padsW_len]
   exact own_kept (own_low hF.o hw.size) hg ho0 (by decide)
theorem bk_one (x : Int) (a : Option Addr) (n c : Nat) : ∀ u ∈ [Value.int .u64 x, .slice a n c], u.oneCell' = true := by
 intro u hu
 simp only [List.mem_cons, List.not_mem_nil, or_false] at hu
 rcases hu with rfl | rfl <;> rfl
set_option maxHeartbeats 8000000 in
set_option maxRecDepth 20000 in
theorem begin_any (s : Nat) (hs : s < 256) (w : World) : Calls Tryz.prog 14 #[.int .u8 (s : Int)] w fun en w' => ∃ Wd R vb vk, en = .returned (.tuple #[.pointer (some ⟨Wd, 0, none⟩), .bool true]) ∧ WdE w Wd R vb vk (booksW s 3) ⟨newA 123456789 (booksW s 3), 0, [], [], [], []⟩ w' := by
 have hw0 : IntKind.u64.wrap (s : Int) = (s : Int) := Go.IntWalk.u64_in _ ⟨by omega, by omega⟩
 have HI0 := Lib.hid (info_parts infoU8)
 go_enter Tryz.func14, Tryz.ntmps14
 go_wp2_with fail
 go_loopw [4, 5] (fun v ix wr => ∃ i : Nat, i ≤ 3 ∧ ix = .int .u64 i ∧ Hid (BkO w.heap.size (booksW s i) v wr) ∧ Hid (Below w.heap.size w wr)) (fun _ ix _ => 3 - (intOf ix).toNat)
 case atStart => exact ⟨0, by omega, rfl, BkO.nil _ _, Below.refl _ _⟩
 case round =>
  obtain ⟨i, hi, rfl, HO, HW⟩ := hrel
  by_cases hc : i < 3
  ·have c1 : (i : Int) < 3 := by omega
   have c0 : (0 : Int) ≤ i := by omega
   have hw1 : IntKind.u64.wrap (7 * (i : Int)) = 7 * (i : Int) := Go.IntWalk.u64_in _ ⟨by omega, by omega⟩
   have hw2 : IntKind.u64.wrap (1000 + 7 * (i : Int)) = 1000 + 7 * (i : Int) := Go.IntWalk.u64_in _ ⟨by omega, by omega⟩
   have hw3 : IntKind.u64.wrap (1000 + 7 * (i : Int) + (s : Int)) = 1000 + 7 * (i : Int) + (s : Int) := Go.IntWalk.u64_in _ ⟨by omega, by omega⟩
   obtain ⟨ab, cb, ev, -⟩ := HO.out.bk
   rw [booksW_len] at ev
   subst ev
   go_upto_region 6 with fail
   generalize wr = w1 at *
   have HF0 : Hid (FiB w1 w1.heap.size s i 0 (.slice none 0 0) (w1.alloc (.cells #[.int .u64 (1000 + 7 * (i : Int) + (s : Int)), .slice none 0 0] 85))) := FiB.start w1 s i hc hs
   generalize w1.alloc (.cells #[.int .u64 (1000 + 7 * (i : Int) + (s : Int)), .slice none 0 0] 85) = wa at *
   clear hw1 hw2 hw3
   go_wp2_with fail
   go_loopw [7] (fun kx wv => ∃ k : Nat, k ≤ 400 ∧ kx = .int .u64 k ∧ Hid (∃ v, FiB w1 w1.heap.size s i k v wv)) (fun kx _ => 400 - (intOf kx).toNat)
   case atStart => exact ⟨0, by omega, rfl, _, HF0.out⟩
   case round =>
    obtain ⟨k, hk, rfl, HV⟩ := hrel
    obtain ⟨v, hF⟩ := HV.out
    obtain ⟨av, cv, ev⟩ := row_slice hF.o
    subst ev
    have HF := Lib.hid hF
    clear hF HV HF0
    have t0 := blk_cell (o := 0) HF.out.b rfl
    have t1 := blk_cell (o := 1) HF.out.b rfl
    have tl := blk_lt HF.out.b
    by_cases hd : k < 400
    ·have d1 : (k : Int) < 400 := by omega
     obtain ⟨p1, p2⟩ := padW_bound hs hc hd
     have pv := padW_val s i k
     have pe : ((s : Int) + 1) * ((k : Int) + 3) = (((s + 1) * (k + 3) : Nat) : Int) := by push_cast; rfl
     have q1 : IntKind.u64.wrap ((s : Int) + 1) = (s : Int) + 1 := Go.IntWalk.u64_in _ ⟨by omega, by omega⟩
     have q2 : IntKind.u64.wrap ((k : Int) + 3) = (k : Int) + 3 := Go.IntWalk.u64_in _ ⟨by omega, by omega⟩
     have q3 : IntKind.u64.wrap (((s : Int) + 1) * ((k : Int) + 3)) = ((s : Int) + 1) * ((k : Int) + 3) := Go.IntWalk.u64_in _ ⟨by rw [pe]; omega, by rw [pe]; omega⟩
     have q4 : IntKind.u64.wrap (5 * (i : Int)) = 5 * (i : Int) := Go.IntWalk.u64_in _ ⟨by omega, by omega⟩
     have q5 : IntKind.u64.wrap ((k : Int) + 5 * (i : Int)) = (k : Int) + 5 * (i : Int) := Go.IntWalk.u64_in _ ⟨by omega, by omega⟩
     have q6 : IntKind.u64.wrap ((k : Int) + 5 * (i : Int) + 1) = (k : Int) + 5 * (i : Int) + 1 := Go.IntWalk.u64_in _ ⟨by omega, by omega⟩
     have q7 : IntKind.u64.wrap (((s : Int) + 1) * ((k : Int) + 3) * ((k : Int) + 5 * (i : Int) + 1)) = (((s + 1) * (k + 3) * (k + 5 * i + 1) : Nat) : Int) := by rw [pv]; exact Go.IntWalk.u64_in _ ⟨by omega, by omega⟩
     have q8 : Int.tmod (((s + 1) * (k + 3) * (k + 5 * i + 1) : Nat) : Int) 2147483647 = (padW s i k : Int) := by rw [Int.tmod_eq_emod_of_nonneg (by omega)]; rfl
     have q9 : IntKind.u64.wrap (padW s i k : Int) = (padW s i k : Int) := by have : padW s i k < 2147483647 := Nat.mod_lt _ (by decide); exact Go.IntWalk.u64_in _ ⟨by omega, by omega⟩
     have q10 : IntKind.u64.wrap ((k : Int) + 1) = (k : Int) + 1 := Go.IntWalk.u64_in _ ⟨by omega, by omega⟩
     obtain ⟨i0, hi0, hz0, hz1, hz2⟩ := HI0.out
     clear pv pe p1 p2 hd
     generalize (((s + 1) * (k + 3) * (k + 5 * i + 1) : Nat) : Int) = pr at *
     go_wp2_with (at_builtin; refine wpList_app _ rfl (.tmp 26) (.tmp 40) 83 rfl w1.heap.size 22 i0 _ 1 8 Tryz.underlying83 hi0 hz0 hz1 hz2 rfl (by decide) _ k (padC (padsW s i k)) rfl (own_step HF.out.o (bAl (o := .cells #[.int .u64 (padW s i k : Int)] 22))) (some ⟨wr.heap.size, 0, none⟩) 1 1 [.int .u64 (padW s i k : Int)] rfl rfl new_cellsB (oneU _) (by unfold maxLen; omega) (by omega) (by have := HF.out.bel.size; simp; omega) ?_; intro v' w5 hown hgrow hat; obtain ⟨a5, c5, e5⟩ := row_slice hown; subst e5; obtain ⟨hb5, hF5⟩ := (FiB.app ⟨bStep HF.out.bel (bAl (o := .cells #[.int .u64 (padW s i k : Int)] 22)), HF.out.hB, blk_step HF.out.b bAl, own_step HF.out.o bAl⟩ hgrow hown); have HF5 := Lib.hid hF5; have k1 := blk_cell (o := 1) hb5 rfl; have f1 := blk_free (o := 1) hb5; have kl := blk_lt hb5; clear hown hgrow hat hF5 hb5)
     exact ⟨⟨k + 1, by omega, by push_cast; rfl, _, HF5⟩, by simp [intOf]; omega⟩
    ·obtain rfl : k = 400 := by omega
     have HM : Hid (FiB w1 w1.heap.size s i 400 (.slice av 400 cv) wr) := HF.out
     have HWr : Hid (Below w1.heap.size w1 wr) := HF.out.bel
     obtain ⟨lst, hl1, hl2, hl3⟩ := HO.out.o
     rw [booksW_len] at hl2
     have HL1 := Lib.hid hl1
     have HL2 := Lib.hid (own_step hl2 HWr.out)
     have HL3 : Hid (∀ x ∈ lst, wr.ownsRow w.heap.size 22 1 x.2 x.1.2.length (padC x.1.2)) := fun x hx => own_step (hl3 x hx) HWr.out
     clear hl1 hl2 hl3 HF hd
     obtain ⟨i1, hi1, hy0, hy1, hy2⟩ := info_parts infoBk
     have q11 : IntKind.u64.wrap ((i : Int) + 1) = (i : Int) + 1 := Go.IntWalk.u64_in _ ⟨by omega, by omega⟩
     generalize hpt : ((bookW s i).1 : Int) = ptb at *
     go_wp2_with (at_builtin; refine wpList_app _ rfl (.tmp 43) (.tmp 45) 23 rfl w.heap.size 85 i1 _ 2 32 Tryz.underlying23 hi1 hy0 hy1 hy2 rfl (by decide) _ i (flatB lst) rfl (own_step HL2.out (bAl (o := .cells #[.int .u64 ptb, .slice av 400 cv] 85))) (some ⟨wr.heap.size, 0, none⟩) 1 1 [.int .u64 ptb, .slice av 400 cv] rfl rfl new_cells2 (bk_one _ _ _ _) (by unfold maxLen; omega) (by omega) (by have := HW.out.size; have := HWr.out.size; simp; omega) ?_; intro v' w5 hown hgrow hat; have HZ9 : Hid (BkO w.heap.size (booksW s (i + 1)) v' w5) := BkO.add HO.out HW.out (HM.out.step bAl) hgrow lst HL1.out (own_step HL2.out bAl) (fun x hx => own_step (HL3.out x hx) bAl) (by rw [hpt]; exact hown); have HB9 : Hid (Below w.heap.size w w5) := (bStep (bStep HW.out HWr.out) (bAl (o := .cells #[.int .u64 ptb, .slice av 400 cv] 85))).grown hgrow (by have := HW.out.size; have := HWr.out.size; simp; omega) (fun k hk => (World.ownsRow.lt HL2.out k hk).1); clear hown hgrow hat)
     exact ⟨⟨i + 1, by omega, by push_cast; rfl, HZ9, HB9⟩, by simp [intOf]; omega⟩
  ·obtain rfl : i = 3 := by omega
   clear hc
   obtain ⟨ab, cb, ev, hbt⟩ := HO.out.bk
   rw [booksW_len] at ev
   subst ev
   have CN := Lib.hid (New_ok (w := wr) 123456789 cb (BksT.at_ hbt) ⟨by rw [booksW_len]; decide, fun bk hbk => by obtain ⟨j, -, rfl⟩ := List.mem_map.1 hbk; show (padsW s j 400).length ≤ 1000000; rw [padsW_len]; decide⟩ (secW s hs))
   rw [booksW_len] at CN
   have HBT := Lib.hid hbt
   clear hbt
   go_wp2_with (go_at_call 24; refine CN.out.mono ?_; rintro e w2 ⟨R, vb, rfl, hv, hb⟩; have HV := Lib.hid hv; have HB2 := Lib.hid hb; clear hv hb)
   have hBT : BkT (.slice ab 3 cb) (booksW s 3) wr := ⟨ab, cb, by rw [booksW_len], HBT.out⟩
   have hB3 : Below wr.heap.size wr (w2.alloc (Obj.cells #[Value.pointer (some ⟨R, 0, none⟩), Value.slice ab 3 cb, Value.int IntKind.i64 0, Value.slice none 0 0, Value.slice none 0 0, Value.slice none 0 0, Value.slice none 0 0] 50)) := bStep HB2.out bAl
   exact bodyPost_ret (v := .tuple #[.pointer (some ⟨w2.heap.size, 0, none⟩), .bool true]) (by simp only [results, Tryz.results14]; go_simp) rfl ⟨_, R, vb, _, rfl, _, _, _, _, _, _, ⟨bStep HW.out hB3, Nat.le_trans HW.out.size HB2.out.size, (HV.out.step bAl).low HW.out.size, blk_new w2 _, hBT.step hB3, ⟨rfl, Or.inl ⟨rfl, rfl⟩⟩, ⟨rfl, Or.inl ⟨rfl, rfl⟩⟩, ⟨rfl, Or.inl ⟨rfl, rfl⟩⟩, ⟨rfl, Or.inl ⟨rfl, rfl⟩⟩, (fun k e => by cases e), (fun k e => by cases e), (fun k e => by cases e), (fun k e => by cases e), (fun k e => by cases e), (fun k e => by cases e)⟩⟩
end Go.Proofs.YtmpilgkfbibhlaaGreatDoor
namespace Go.Proofs.YtmpilgkfbibhlaaGreatDoor
open Sx Go.RowKit Mr
def KeepS (W W2 : World) : Prop := ∀ (b : Nat) (cs : Array Value) (fr : Nat × Nat), W.heap[b]? = some (Obj.cells cs 43 fr) → W2.heap[b]? = some (Obj.cells cs 43 fr)
set_option maxHeartbeats 8000000 in
set_option maxRecDepth 20000 in
theorem wenter_0 {w0 w : World} {Wd R : Nat} {vb vk : Value} {bks : List Bk} {S : WdS} (h : WdE w0 Wd R vb vk bks S w) (ho : OkA S.a) (hG : Glob0 w0) (b : Int) (nm : ByteArray) (k t ea eb : Int) (n1 ot : ByteArray) (hs : nm.size ≤ 1000000 ∧ n1.size ≤ 1000000 ∧ ot.size ≤ 1000000) :
  Calls Tryz.prog 54 #[.pointer (some ⟨Wd, 0, none⟩), .int .i64 b, .string nm, .agg #[.int .i64 k, .int .i64 t, .int .i64 ea, .int .i64 eb, .string n1, .string ot]] w fun en w' => en = .returned (.bool ((enterA S.a b nm (k, S.at_, ea, eb, n1, ot)).1 == 0)) ∧ WdE w0 Wd R vb vk bks { S with a := (enterA S.a b nm (k, S.at_, ea, eb, n1, ot)).2 } w' ∧ (KeepS w w') := by
 obtain ⟨g, vp, vpk, vmd, vbt, vmk, h⟩ := h
 obtain ⟨C9, hC9⟩ : ∃ C9, (enterA S.a b nm (k, S.at_, ea, eb, n1, ot)).1 = C9 := ⟨_, rfl⟩
 have CE := Lib.hid (fun W (hW : WdAt w0 Wd R vb vk bks S g vp vpk vmd vbt vmk W) => Enter_any hW.v ho (gstep hG hW.bel) b nm (k, S.at_, ea, eb, n1, ot) hs)
 rw [hC9] at CE ⊢
 have HC9 := Lib.hid hC9
 have H0 := Lib.hid (h.step (bAl (W := w) (o := (.cells #[.int .i64 k, .int .i64 t, .int .i64 ea, .int .i64 eb, .string n1, .string ot] 29))))
 have HX := Lib.hid (blk_new w (.cells #[.int .i64 k, .int .i64 t, .int .i64 ea, .int .i64 eb, .string n1, .string ot] 29))
 have HEL := Lib.hid h.bel.size
 have HK0 : Hid (KeepS w (w.alloc (.cells #[.int .i64 k, .int .i64 t, .int .i64 ea, .int .i64 eb, .string n1, .string ot] 29))) := fun b9 cs9 fr9 e9 => blk_step e9 bAl
 have HEN : Hid (Wd ≠ w.heap.size) := fun e => by have := blk_lt h.blk; omega
 have hwl := blk_lt h.blk
 clear h ho hG hs hC9
 go_enter Tryz.func54, Tryz.ntmps54
 go_upto_region 1 with fail
 generalize w.alloc (.cells #[.int .i64 k, .int .i64 t, .int .i64 ea, .int .i64 eb, .string n1, .string ot] 29) = W0 at *
 have c2 : W0.cell? ⟨Wd, 2, none⟩ = some (.int .i64 S.at_) := blk_cell (o := 2) H0.out.blk rfl
 have cl := blk_lt H0.out.blk
 have x1 := blk_cell (o := 1) HX.out rfl
 have f1 := blk_free (o := 1) HX.out
 have xl := blk_lt HX.out
 go_upto_region 2 with fail
 have HX1 := Lib.hid (blk_set (o := 1) (v := .int .i64 S.at_) HX.out)
 have H1 : Hid (WdAt w0 Wd R vb vk bks S g vp vpk vmd vbt vmk (W0.setCell ⟨w.heap.size, 1, none⟩ (.int .i64 S.at_))) := H0.out.setEv HX.out HEL.out HEN.out
 have HK1 : Hid (KeepS w (W0.setCell ⟨w.heap.size, 1, none⟩ (.int .i64 S.at_))) := fun b9 cs9 fr9 e9 => blk_set_other (HK0.out _ _ _ e9) (fun c => by have := blk_lt e9; have c2 : b9 = w.heap.size := c; omega)
 generalize W0.setCell ⟨w.heap.size, 1, none⟩ (.int .i64 S.at_) = W1 at *
 clear H0 HX c2 cl x1 f1 xl hwl
 refine region_all 10 10 23 [(7, 21)] [(none, []), (none, []), (none, []), (none, []), (none, []), (none, []), (none, []), (some 0, []), (none, [0]), (none, [])] [(14, (.pointer (some ⟨Wd, 0, none⟩))), (15, (.pointer (some ⟨Wd, 0, none⟩))), (16, (.pointer (some ⟨Wd, 0, none⟩))), (17, (.pointer (some ⟨R, 0, none⟩))), (18, (.int .i64 b)), (19, (.string nm)), (20, (.agg #[.int .i64 k, .int .i64 S.at_, .int .i64 ea, .int .i64 eb, .string n1, .string ot])), (22, (.bool (C9 == 0))), (8, (.bool (C9 == 0)))] (fun bsE vsE W => OneV (fun W => W.heap[w.heap.size]? = some (.cells #[.int .i64 k, .int .i64 S.at_, .int .i64 ea, .int .i64 eb, .string n1, .string ot] 29 (0, 0)) ∧ W.cell? ⟨Wd, 0, none⟩ = some (.pointer (some ⟨R, 0, none⟩)) ∧ Wd < W.heap.size ∧ (KeepS w W)) (fun W => WdAt w0 Wd R vb vk bks S g vp vpk vmd vbt vmk W) (fun W => WdE w0 Wd R vb vk bks { S with a := (enterA S.a b nm (k, S.at_, ea, eb, n1, ot)).2 } W) (.int .i64 C9) (bsE.getD 0 false) ((vsE.getD 0 undef)) W) (by kernel_rfl) (by kernel_rfl) rfl rfl (by kernel_rfl) (by rfl) ?h0 ?each ?done
 case h0 =>
  intro vsE hlv
  obtain ⟨v0, rfl⟩ := ll1 hlv
  exact ⟨⟨blk_step HX1.out (Below.refl _ _).drew, blk_cell (H1.out.step (Below.refl _ _).drew).blk rfl, blk_lt (H1.out.step (Below.refl _ _).drew).blk, (fun b9 cs9 fr9 e9 => blk_step (HK1.out _ _ _ e9) (Below.refl _ _).drew)⟩, (fun _ => H1.out.step (Below.refl _ _).drew), (fun e => by cases e), (fun e => by cases e)⟩
 case each =>
  simp only [AllE]
  refine ⟨⟨14, (.pointer (some ⟨Wd, 0, none⟩)), rfl, by kernel_rfl, ?_⟩, ⟨15, (.pointer (some ⟨Wd, 0, none⟩)), rfl, by kernel_rfl, ?_⟩, ⟨16, (.pointer (some ⟨Wd, 0, none⟩)), rfl, by kernel_rfl, ?_⟩, ⟨17, (.pointer (some ⟨R, 0, none⟩)), rfl, by kernel_rfl, ?_⟩, ⟨18, (.int .i64 b), rfl, by kernel_rfl, ?_⟩, ⟨19, (.string nm), rfl, by kernel_rfl, ?_⟩, ⟨20, (.agg #[.int .i64 k, .int .i64 S.at_, .int .i64 ea, .int .i64 eb, .string n1, .string ot]), rfl, by kernel_rfl, ?_⟩, Or.inl ⟨21, rfl, ?q1_7⟩, ⟨22, (.bool (C9 == 0)), rfl, by kernel_rfl, ?q1_8⟩, ⟨8, (.bool (C9 == 0)), rfl, by kernel_rfl, ?_⟩, trivial⟩
  case q1_7 =>
   intro bsE vsE W hlb hlv hnd hbk h
   obtain ⟨b0, rfl⟩ := ll1 hlb
   obtain ⟨v0, rfl⟩ := ll1 hlv
   obtain rfl : b0 = false := hbk
   replace h : OneV (fun W => W.heap[w.heap.size]? = some (.cells #[.int .i64 k, .int .i64 S.at_, .int .i64 ea, .int .i64 eb, .string n1, .string ot] 29 (0, 0)) ∧ W.cell? ⟨Wd, 0, none⟩ = some (.pointer (some ⟨R, 0, none⟩)) ∧ Wd < W.heap.size ∧ (KeepS w W)) (fun W => WdAt w0 Wd R vb vk bks S g vp vpk vmd vbt vmk W) (fun W => WdE w0 Wd R vb vk bks { S with a := (enterA S.a b nm (k, S.at_, ea, eb, n1, ot)).2 } W) (.int .i64 C9) false (v0) W := h
   clear hnd
   have HST := Lib.hid h
   have hs := h.a rfl; have hp := h.p
   intro K Q hK
   simp only [putE, updAll, Act.put, sl1, sl2, sl3, sl4] at hK ⊢
   go_wp2_with (go_at_call 72; refine (CE.out _ hs).mono ?_; rintro en w9 ⟨rfl, hN⟩)
   all_goals (have hz := hs.moved hN)
   all_goals (have hm : OneV (fun W => W.heap[w.heap.size]? = some (.cells #[.int .i64 k, .int .i64 S.at_, .int .i64 ea, .int .i64 eb, .string n1, .string ot] 29 (0, 0)) ∧ W.cell? ⟨Wd, 0, none⟩ = some (.pointer (some ⟨R, 0, none⟩)) ∧ Wd < W.heap.size ∧ (KeepS w W)) (fun W => WdAt w0 Wd R vb vk bks S g vp vpk vmd vbt vmk W) (fun W => WdE w0 Wd R vb vk bks { S with a := (enterA S.a b nm (k, S.at_, ea, eb, n1, ot)).2 } W) (.int .i64 C9) true ((.int .i64 C9)) w9 := ⟨⟨(by obtain ⟨g', vp', m1, m2⟩ := hN; exact m2.keepT hs.v.ra _ _ _ _ hp.1 (by decide) (by decide) (by decide)), (by obtain ⟨g9, a9, b9, c9, d9, e9, h9⟩ := hz; exact blk_cell h9.blk rfl), (by obtain ⟨g9, a9, b9, c9, d9, e9, h9⟩ := hz; exact blk_lt h9.blk), (fun b9 cs9 fr9 e9 => by obtain ⟨g', vp', m1, m2⟩ := hN; exact m2.keepT hs.v.ra _ _ _ _ (hp.2.2.2 _ _ _ e9) (by decide) (by decide) (by decide))⟩, (fun e => by cases e), (fun _ => hz), (fun _ => rfl)⟩)
   all_goals (first | exact hK _ _ hm | exact hm)
  case q1_8 =>
   intro bsE vsE W hlb hlv hnd h
   obtain ⟨b0, rfl⟩ := ll1 hlb
   obtain ⟨v0, rfl⟩ := ll1 hlv
   obtain rfl : b0 = true := hnd 0 (by simp)
   replace h : OneV (fun W => W.heap[w.heap.size]? = some (.cells #[.int .i64 k, .int .i64 S.at_, .int .i64 ea, .int .i64 eb, .string n1, .string ot] 29 (0, 0)) ∧ W.cell? ⟨Wd, 0, none⟩ = some (.pointer (some ⟨R, 0, none⟩)) ∧ Wd < W.heap.size ∧ (KeepS w W)) (fun W => WdAt w0 Wd R vb vk bks S g vp vpk vmd vbt vmk W) (fun W => WdE w0 Wd R vb vk bks { S with a := (enterA S.a b nm (k, S.at_, ea, eb, n1, ot)).2 } W) (.int .i64 C9) true (v0) W := h
   clear hnd
   have HST := Lib.hid h
   obtain rfl := h.r rfl
   intro K Q hK
   simp only [putE, updAll, Act.put, sl1, sl2, sl3, sl4] at hK ⊢
   go_wp2_with (fail)
   all_goals (first | exact hK _ h | exact h)
  all_goals
   intro bsE vsE W hlb hlv hnd h
   obtain ⟨b0, rfl⟩ := ll1 hlb
   obtain ⟨v0, rfl⟩ := ll1 hlv
   replace h : OneV (fun W => W.heap[w.heap.size]? = some (.cells #[.int .i64 k, .int .i64 S.at_, .int .i64 ea, .int .i64 eb, .string n1, .string ot] 29 (0, 0)) ∧ W.cell? ⟨Wd, 0, none⟩ = some (.pointer (some ⟨R, 0, none⟩)) ∧ Wd < W.heap.size ∧ (KeepS w W)) (fun W => WdAt w0 Wd R vb vk bks S g vp vpk vmd vbt vmk W) (fun W => WdE w0 Wd R vb vk bks { S with a := (enterA S.a b nm (k, S.at_, ea, eb, n1, ot)).2 } W) (.int .i64 C9) b0 (v0) W := h
   clear hnd
   have HST := Lib.hid h
   obtain ⟨hx, g0, gl, -⟩ := h.p; have x0 := blk_cell (o := 0) hx rfl; have x1 := blk_cell (o := 1) hx rfl; have x2 := blk_cell (o := 2) hx rfl; have x3 := blk_cell (o := 3) hx rfl; have x4 := blk_cell (o := 4) hx rfl; have x5 := blk_cell (o := 5) hx rfl; have xl := blk_lt hx; clear hx
   intro K Q hK
   simp only [putE, updAll, Act.put, sl1, sl2, sl3, sl4] at hK ⊢
   go_wp2_with (fail)
   all_goals (first | exact hK _ h | exact h)
 case done =>
  intro vsE W hlv h
  obtain ⟨v0, rfl⟩ := ll1 hlv
  replace h : OneV (fun W => W.heap[w.heap.size]? = some (.cells #[.int .i64 k, .int .i64 S.at_, .int .i64 ea, .int .i64 eb, .string n1, .string ot] 29 (0, 0)) ∧ W.cell? ⟨Wd, 0, none⟩ = some (.pointer (some ⟨R, 0, none⟩)) ∧ Wd < W.heap.size ∧ (KeepS w W)) (fun W => WdAt w0 Wd R vb vk bks S g vp vpk vmd vbt vmk W) (fun W => WdE w0 Wd R vb vk bks { S with a := (enterA S.a b nm (k, S.at_, ea, eb, n1, ot)).2 } W) (.int .i64 C9) true (v0) W := h
  have HST := Lib.hid h
  have HZ := Lib.hid (h.z rfl)
  have HZP := Lib.hid h.p.2.2.2
  clear h HST
  simp only [putE, updAll, Act.put, sl1, sl2, sl3, sl4]
  go_wp2_with fail
  exact bodyPost_ret (v := .bool (C9 == 0)) (by simp only [results, Tryz.results54]; go_simp) rfl ⟨rfl, HZ.out, HZP.out⟩
end Go.Proofs.YtmpilgkfbibhlaaGreatDoor
