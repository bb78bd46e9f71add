/-
  Guards in memory: stores and copies of many cells; what Parse hands back.
-/
import Derived.Test.YtpdhkgfdmpofiaaGreatDoorTp
import Derived.Laws.CopyOwn
set_option linter.unusedSimpArgs false
set_option linter.unusedVariables false
namespace Go.Proofs.YtpdhkgfdmpofiaaGreatDoor
open Sx Go.RowKit
theorem bSetCells {N b : Nat} {w : World} : ∀ (vs : List Value) (o : Nat) {W : World}, Below N w W → N ≤ b → Below N w (W.setCells b o vs)
  | [], _, _, h, _ => h
  | v :: vs, o, _, h, hb => bSetCells vs (o + 1) (h.setCell (p := ⟨b, o, none⟩) hb v) hb
theorem setCells_other {b g : Nat} {ob : Obj} : ∀ (vs : List Value) (o : Nat) {W : World}, W.heap[g]? = some ob → g ≠ b → (W.setCells b o vs).heap[g]? = some ob
  | [], _, _, h, _ => h
  | v :: vs, o, _, h, hb => setCells_other vs (o + 1) (blk_set_other h hb) hb
theorem gthere {W : World} {b : Nat} {n : Nat → Int} (h : W.heap[b]? = some (gObj n)) : W.there b 0 22 := fun j hj => by
  have := gcells h hj
  rw [Nat.zero_add]
  exact ⟨by rw [this]; rfl, blk_free h⟩
theorem gone (n : Nat → Int) : (#[.int .i64 (n 0), .int .i64 (n 1), .int .i64 (n 2), .int .i64 (n 3), .int .i64 (n 4), .int .i64 (n 5), .int .i64 (n 6), .int .i64 (n 7), .int .i64 (n 8), .int .i64 (n 9), .int .i64 (n 10), .int .i64 (n 11), .int .i64 (n 12), .int .i64 (n 13), .int .i64 (n 14), .int .i64 (n 15), .int .i64 (n 16), .int .i64 (n 17), .int .i64 (n 18), .int .i64 (n 19), .int .i64 (n 20), .int .i64 (n 21)] : Array Value).all (·.oneCell') = true := all_oneCell_toArray (cs := [.int .i64 (n 0), .int .i64 (n 1), .int .i64 (n 2), .int .i64 (n 3), .int .i64 (n 4), .int .i64 (n 5), .int .i64 (n 6), .int .i64 (n 7), .int .i64 (n 8), .int .i64 (n 9), .int .i64 (n 10), .int .i64 (n 11), .int .i64 (n 12), .int .i64 (n 13), .int .i64 (n 14), .int .i64 (n 15), .int .i64 (n 16), .int .i64 (n 17), .int .i64 (n 18), .int .i64 (n 19), .int .i64 (n 20), .int .i64 (n 21)]) fun v hv => by
  simp only [List.mem_cons, List.not_mem_nil, or_false] at hv
  rcases hv with rfl | rfl | rfl | rfl | rfl | rfl | rfl | rfl | rfl | rfl | rfl | rfl | rfl | rfl | rfl | rfl | rfl | rfl | rfl | rfl | rfl | rfl <;> rfl
theorem gset {W : World} {b : Nat} {n : Nat → Int} (h : W.heap[b]? = some (gObj n)) {k : Nat} (hk : k < 22) (v : Int) : (W.setCell ⟨b, k, none⟩ (.int .i64 v)).heap[b]? = some (gObj (updF n k v)) := by
  have hc : k = 0 ∨ k = 1 ∨ k = 2 ∨ k = 3 ∨ k = 4 ∨ k = 5 ∨ k = 6 ∨ k = 7 ∨ k = 8 ∨ k = 9 ∨ k = 10 ∨ k = 11 ∨ k = 12 ∨ k = 13 ∨ k = 14 ∨ k = 15 ∨ k = 16 ∨ k = 17 ∨ k = 18 ∨ k = 19 ∨ k = 20 ∨ k = 21 := by omega
  rcases hc with rfl | rfl | rfl | rfl | rfl | rfl | rfl | rfl | rfl | rfl | rfl | rfl | rfl | rfl | rfl | rfl | rfl | rfl | rfl | rfl | rfl | rfl <;> exact (blk_set h).trans rfl
theorem gext {f g : Nat → Int} (h : ∀ k, k < 22 → f k = g k) : gObj f = gObj g := by
  unfold gObj
  rw [h 0 (by decide), h 1 (by decide), h 2 (by decide), h 3 (by decide), h 4 (by decide), h 5 (by decide), h 6 (by decide), h 7 (by decide), h 8 (by decide), h 9 (by decide), h 10 (by decide), h 11 (by decide), h 12 (by decide), h 13 (by decide), h 14 (by decide), h 15 (by decide), h 16 (by decide), h 17 (by decide), h 18 (by decide), h 19 (by decide), h 20 (by decide), h 21 (by decide)]
theorem gfill {b : Nat} : ∀ (xs : List Int) (o : Nat) (m : Nat → Int) (W : World), W.heap[b]? = some (gObj m) → o + xs.length ≤ 22 → (W.setCells b o (flatI xs)).heap[b]? = some (gObj (fun k => if o ≤ k ∧ k < o + xs.length then xs.getD (k - o) 0 else m k))
  | [], o, m, W, h, _ => by
    have e : gObj (fun k => if o ≤ k ∧ k < o + ([] : List Int).length then ([] : List Int).getD (k - o) 0 else m k) = gObj m := gext fun k _ => if_neg (by simp)
    rw [e]
    exact h
  | x :: xs, o, m, W, h, hl => by
    simp only [List.length_cons] at hl
    have h1 := gset h (show o < 22 by omega) x
    have h2 := gfill xs (o + 1) _ _ h1 (by omega)
    have e : gObj (fun k => if o + 1 ≤ k ∧ k < o + 1 + xs.length then xs.getD (k - (o + 1)) 0 else updF m o x k) = gObj (fun k => if o ≤ k ∧ k < o + (x :: xs).length then (x :: xs).getD (k - o) 0 else m k) := gext fun k _ => by
      simp only [List.length_cons]
      by_cases c : k = o
      · subst c
        rw [if_neg (by omega), updF_at, if_pos (by omega), Nat.sub_self]
        rfl
      · rw [updF_ne c]
        by_cases d : o + 1 ≤ k ∧ k < o + 1 + xs.length
        · rw [if_pos d, if_pos (by omega), show k - o = (k - (o + 1)) + 1 by omega]
          rfl
        · rw [if_neg d, if_neg (by omega)]
    rw [e] at h2
    exact h2
theorem gstore {W : World} {b : Nat} {n m : Nat → Int} (h : W.heap[b]? = some (gObj m)) : (W.setCells b 0 [.int .i64 (n 0), .int .i64 (n 1), .int .i64 (n 2), .int .i64 (n 3), .int .i64 (n 4), .int .i64 (n 5), .int .i64 (n 6), .int .i64 (n 7), .int .i64 (n 8), .int .i64 (n 9), .int .i64 (n 10), .int .i64 (n 11), .int .i64 (n 12), .int .i64 (n 13), .int .i64 (n 14), .int .i64 (n 15), .int .i64 (n 16), .int .i64 (n 17), .int .i64 (n 18), .int .i64 (n 19), .int .i64 (n 20), .int .i64 (n 21)]).heap[b]? = some (gObj n) := by
  have h1 := gfill [n 0, n 1, n 2, n 3, n 4, n 5, n 6, n 7, n 8, n 9, n 10, n 11, n 12, n 13, n 14, n 15, n 16, n 17, n 18, n 19, n 20, n 21] 0 m W h (by simp)
  have e : gObj (fun k => if 0 ≤ k ∧ k < 0 + ([n 0, n 1, n 2, n 3, n 4, n 5, n 6, n 7, n 8, n 9, n 10, n 11, n 12, n 13, n 14, n 15, n 16, n 17, n 18, n 19, n 20, n 21] : List Int).length then ([n 0, n 1, n 2, n 3, n 4, n 5, n 6, n 7, n 8, n 9, n 10, n 11, n 12, n 13, n 14, n 15, n 16, n 17, n 18, n 19, n 20, n 21] : List Int).getD (k - 0) 0 else m k) = gObj n := gext fun k hk => by
    rw [if_pos ⟨Nat.zero_le _, by simpa using hk⟩]
    exact gL_get n hk
  rw [e] at h1
  exact h1
theorem gload {W : World} {b : Nat} {n : Nat → Int} (h : W.heap[b]? = some (gObj n)) : (loadVar 25 ⟨b, 0, none⟩).run Tryz.prog W = .ok (.agg #[.int .i64 (n 0), .int .i64 (n 1), .int .i64 (n 2), .int .i64 (n 3), .int .i64 (n 4), .int .i64 (n 5), .int .i64 (n 6), .int .i64 (n 7), .int .i64 (n 8), .int .i64 (n 9), .int .i64 (n 10), .int .i64 (n 11), .int .i64 (n 12), .int .i64 (n 13), .int .i64 (n 14), .int .i64 (n 15), .int .i64 (n 16), .int .i64 (n 17), .int .i64 (n 18), .int .i64 (n 19), .int .i64 (n 20), .int .i64 (n 21)]) W :=
  run_loadVar_mid W b 0 25 [.int .i64 (n 0), .int .i64 (n 1), .int .i64 (n 2), .int .i64 (n 3), .int .i64 (n 4), .int .i64 (n 5), .int .i64 (n 6), .int .i64 (n 7), .int .i64 (n 8), .int .i64 (n 9), .int .i64 (n 10), .int .i64 (n 11), .int .i64 (n 12), .int .i64 (n 13), .int .i64 (n 14), .int .i64 (n 15), .int .i64 (n 16), .int .i64 (n 17), .int .i64 (n 18), .int .i64 (n 19), .int .i64 (n 20), .int .i64 (n 21)] _ (grange h) Tryz.underlying25 rfl gsize
theorem res_cell {P : Program} {fn : Func} {tmps : Array Value} {W : World} {a e : Nat} {t : TypeId} {p : Addr} {v u : Value} (hr : fn.results = #[.cell a t, .tmp e]) (ha : tmps.getD a undef = .pointer (some p)) (hl : (loadVar t p).run P W = .ok v W) (he : tmps.getD e undef = u) : (results fn tmps).run P W = .ok (.tuple #[v, u]) W := by
  unfold results
  rw [hr]
  simp only [List.mapM_toArray, List.mapM_cons, List.mapM_nil, ha, he, asAddr, Sem.run_bind, Sem.run_pure, Result.andThen_ok, hl, map_eq_pure_bind, bind_assoc, pure_bind]
  rfl
theorem wp_copy_cells {P : Program} {w : World} {o : Oper} {a : Act} {K : Act → World → Prop} {Q : Exit → Act → World → Prop} (d s : Operand) (dT sT : TypeId)
    (ho : o.op = .call { callee := .builtin .copy, args := #[d, s], argTypes := #[dT, sT] }) (elem : TypeId) (hu : P.underlying dT = some (.slice elem)) (hsz : (P.info? elem).map (·.size) = some 1)
    (b off dLen dCap : Nat) (ad : Addr) (sLen sCap : Nat) (hd : a.eval d = .slice (some ⟨b, off, none⟩) dLen dCap) (hs : a.eval s = .slice (some ad) sLen sCap) (cs : List Value) (hn : cs.length = Nat.min sLen dLen)
    (hsrc : ∀ j v, cs[j]? = some v → w.cell? (ad.add j) = some v) (hc : ∀ j, j < cs.length → (w.cell? ⟨b, off + j, none⟩).isSome = true) (hf : ∀ j, j < cs.length → w.frozen? ⟨b, off + j, none⟩ = false) (h1 : ∀ v ∈ cs, v.oneCell' = true)
    (h : K (a.put o.dst (goInt cs.length)) (w.setCells b off cs)) : o.wp P a w K Q := by
  have hrun := run_copy_cells (P := P) w dT sT o.type elem b off dLen dCap ad sLen sCap cs hu hsz hn hsrc hc hf h1
  unfold Oper.wp
  simp [execOp, ho, resolve, invoke, builtin, hd, hs, hrun, Result.andThen]
  exact h
/-- The array of numbers. -/
def aObj (X : Nat → Int) : Obj := .cells #[.int .i64 (X 0), .int .i64 (X 1), .int .i64 (X 2), .int .i64 (X 3), .int .i64 (X 4), .int .i64 (X 5), .int .i64 (X 6), .int .i64 (X 7), .int .i64 (X 8), .int .i64 (X 9), .int .i64 (X 10), .int .i64 (X 11), .int .i64 (X 12), .int .i64 (X 13), .int .i64 (X 14), .int .i64 (X 15), .int .i64 (X 16), .int .i64 (X 17), .int .i64 (X 18), .int .i64 (X 19), .int .i64 (X 20), .int .i64 (X 21)] 59 (0, 0)
theorem acells {W : World} {b : Nat} {X : Nat → Int} (h : W.heap[b]? = some (aObj X)) {k : Nat} (hk : k < 22) : W.cell? ⟨b, k, none⟩ = some (.int .i64 (X k)) := by
  have hc : k = 0 ∨ k = 1 ∨ k = 2 ∨ k = 3 ∨ k = 4 ∨ k = 5 ∨ k = 6 ∨ k = 7 ∨ k = 8 ∨ k = 9 ∨ k = 10 ∨ k = 11 ∨ k = 12 ∨ k = 13 ∨ k = 14 ∨ k = 15 ∨ k = 16 ∨ k = 17 ∨ k = 18 ∨ k = 19 ∨ k = 20 ∨ k = 21 := by omega
  rcases hc with rfl | rfl | rfl | rfl | rfl | rfl | rfl | rfl | rfl | rfl | rfl | rfl | rfl | rfl | rfl | rfl | rfl | rfl | rfl | rfl | rfl | rfl <;> exact blk_cell h rfl
theorem aset {W : World} {b : Nat} {X : Nat → Int} (h : W.heap[b]? = some (aObj X)) {k : Nat} (hk : k < 22) (v : Int) : (W.setCell ⟨b, k, none⟩ (.int .i64 v)).heap[b]? = some (aObj (updF X k v)) := by
  have hc : k = 0 ∨ k = 1 ∨ k = 2 ∨ k = 3 ∨ k = 4 ∨ k = 5 ∨ k = 6 ∨ k = 7 ∨ k = 8 ∨ k = 9 ∨ k = 10 ∨ k = 11 ∨ k = 12 ∨ k = 13 ∨ k = 14 ∨ k = 15 ∨ k = 16 ∨ k = 17 ∨ k = 18 ∨ k = 19 ∨ k = 20 ∨ k = 21 := by omega
  rcases hc with rfl | rfl | rfl | rfl | rfl | rfl | rfl | rfl | rfl | rfl | rfl | rfl | rfl | rfl | rfl | rfl | rfl | rfl | rfl | rfl | rfl | rfl <;> exact (blk_set h).trans rfl
/-- The lists that are the numbers of a valid guard. -/
def okG2 (L : List Int) : Prop := L.length = 22 ∧ okGL L
theorem okG2_sm (L : List Int) (h : okG2 L) : smL L := okGL_sm h.1 h.2
theorem okG2_gL {n : Nat → Int} : okG2 (gL n) ↔ chkR n = 0 := ⟨fun h => (okGL_iff n).1 h.2, fun h => ⟨gL_len n, (okGL_iff n).2 h⟩⟩
/-- What Parse hands back. -/
noncomputable def paN (l : List UInt8) : Nat → Int := match parG okG2 l with
  | some M => nOfL M
  | none => fun _ => 0
noncomputable def paE (l : List UInt8) : Int := match parG okG2 l with
  | some _ => 0
  | none => 8
theorem pa_some {n : Nat → Int} {l : List UInt8} (hk : chkR n = 0) (h : gTxt (gL n) = l) : (∀ k, k < 22 → paN l k = n k) ∧ paE l = 0 := by
  have e := parG_some (ok := okG2) (gL_len n) (okG2_gL.2 hk)
  rw [h] at e
  unfold paN paE
  rw [e]
  exact ⟨fun k hk => gL_get n hk, rfl⟩
theorem pa_none {l : List UInt8} (h : parG okG2 l = none) : paN l = (fun _ => 0) ∧ paE l = 8 := by
  unfold paN paE
  rw [h]
  exact ⟨rfl, rfl⟩
/-- The guard in Parse's hands, while it is being filled. -/
def fillN (m : Nat → Int) (a : Nat) : Nat → Int := fun k => if k < a ∨ 18 ≤ k then m k else 0
theorem fill_next (m : Nat → Int) {a : Nat} (h : a < 18) : updF (fillN m a) a (m a) = fillN m (a + 1) := by
  funext k
  by_cases c : k = a
  · subst c
    rw [updF_at]
    unfold fillN
    rw [if_pos (Or.inl (by omega))]
  · rw [updF_ne c]
    unfold fillN
    by_cases d : k < a ∨ 18 ≤ k
    · rw [if_pos d, if_pos (by omega)]
    · rw [if_neg d, if_neg (by omega)]
theorem fill_all (m : Nat → Int) : fillN m 18 = m := by
  funext k
  unfold fillN
  rw [if_pos (by omega)]
theorem fill_six (m : Nat → Int) : gObj (fillN m 6) = .cells #[.int .i64 (m 0), .int .i64 (m 1), .int .i64 (m 2), .int .i64 (m 3), .int .i64 (m 4), .int .i64 (m 5), .int .i64 0, .int .i64 0, .int .i64 0, .int .i64 0, .int .i64 0, .int .i64 0, .int .i64 0, .int .i64 0, .int .i64 0, .int .i64 0, .int .i64 0, .int .i64 0, .int .i64 (m 18), .int .i64 (m 19), .int .i64 (m 20), .int .i64 (m 21)] 25 (0, 0) := rfl
theorem fill_copy {W : World} {b : Nat} {m : Nat → Int} (h : W.heap[b]? = some (gObj (fillN m 6))) : (W.setCells b 6 [.int .i64 (m 6), .int .i64 (m 7), .int .i64 (m 8), .int .i64 (m 9), .int .i64 (m 10)]).heap[b]? = some (gObj (fillN m 11)) := by
  have h1 := gfill [m 6, m 7, m 8, m 9, m 10] 6 _ W h (by simp)
  have e : gObj (fun k => if 6 ≤ k ∧ k < 6 + ([m 6, m 7, m 8, m 9, m 10] : List Int).length then ([m 6, m 7, m 8, m 9, m 10] : List Int).getD (k - 6) 0 else fillN m 6 k) = gObj (fillN m 11) := gext fun k _ => by
    simp only [List.length_cons, List.length_nil]
    by_cases c : 6 ≤ k ∧ k < 11
    · rw [if_pos (by omega)]
      have hc : k = 6 ∨ k = 7 ∨ k = 8 ∨ k = 9 ∨ k = 10 := by omega
      rcases hc with rfl | rfl | rfl | rfl | rfl <;> rfl
    · rw [if_neg (by omega)]
      unfold fillN
      by_cases d : k < 6 ∨ 18 ≤ k
      · rw [if_pos d, if_pos (by omega)]
      · rw [if_neg d, if_neg (by omega)]
  rw [e] at h1
  exact h1
end Go.Proofs.YtpdhkgfdmpofiaaGreatDoor
