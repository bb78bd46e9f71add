/-
 The reference's events.
-/
import Derived.Test.YtmpilgkfbibhlaaGreatDoorG15Y
set_option linter.unusedSimpArgs false
set_option linter.unusedVariables false
namespace Go.Proofs.YtmpilgkfbibhlaaGreatDoor
open Go.RowKit Mr
theorem infoEv : (Tryz.prog.info? 29).map (fun i => (i.zero, i.size, i.bytes)) = some (some (.agg #[.int .i64 0, .int .i64 0, .int .i64 0, .int .i64 0, .string ⟨#[]⟩, .string ⟨#[]⟩]), 6, 64) := by kernel_rfl
def flatE (h : List Evt) : List Value := h.flatMap evtC
theorem flatE_snoc (h : List Evt) (e : Evt) : flatE (h ++ [e]) = flatE h ++ evtC e := by unfold flatE; simp
theorem flatE_at {h : List Evt} {k j : Nat} {e : Evt} {u : Value} (hk : h[k]? = some e) (hj : (evtC e)[j]? = some u) : (flatE h)[k * 6 + j]? = some u := by
 induction h generalizing k with
 | nil => cases hk
 | cons e0 h ih =>
  unfold flatE
  rw [List.flatMap_cons]
  have hj6 : j < 6 := by have := (List.getElem?_eq_some_iff.1 hj).1; rwa [evtC_len] at this
  cases k with
  | zero =>
   have : e0 = e := by simpa using hk
   subst this
   rw [Nat.zero_mul, Nat.zero_add, List.getElem?_append_left (by rw [evtC_len]; exact hj6)]
   exact hj
  | succ k =>
   rw [List.getElem?_append_right (by rw [evtC_len]; omega), evtC_len]
   have := ih (k := k) (by simpa using hk)
   unfold flatE at this
   rw [show (k + 1) * 6 + j - 6 = k * 6 + j by omega]
   exact this
theorem evtC_one (e : Evt) : ∀ u ∈ evtC e, u.oneCell' = true := by
 obtain ⟨k, t, a, b, nm, ot⟩ := e
 intro u hu
 simp only [evtC, List.mem_cons, List.not_mem_nil, or_false] at hu
 rcases hu with rfl | rfl | rfl | rfl | rfl | rfl <;> rfl
theorem new_cells6 {W : World} {cs : List Value} {t : TypeId} {n : Nat} : n * 6 ≠ 0 → ∃ p off, (some (⟨W.heap.size, 0, none⟩ : Addr)) = some ⟨p, off, none⟩ ∧ ∀ (j : Nat) (u : Value), cs[j]? = some u → (W.alloc (.cells cs.toArray t)).cell? ⟨p, off + j, none⟩ = some u := fun _ =>
 ⟨_, 0, rfl, fun j u hu => blk_cell (blk_new W _) (by rw [Nat.zero_add]; simpa using hu)⟩
end Go.Proofs.YtmpilgkfbibhlaaGreatDoor
