/-
 The laws' worlds: calls whose values are not known; the modules of the first packs.
-/
import Derived.Test.YtmpilgkfbibhlaaGreatDoorG37Y
import Derived.Test.YtmpilgkfbibhlaaGreatDoorG36Y
import Derived.Test.YtmpilgkfbibhlaaGreatDoorG25Y
import Derived.Test.YtmpilgkfbibhlaaGreatDoorG30Y
import Derived.Test.YtmpilgkfbibhlaaGreatDoorG9Y
import Derived.Deep.CutBlock
set_option linter.unusedSimpArgs false
set_option linter.unusedVariables false
namespace Go.Proofs.YtmpilgkfbibhlaaGreatDoor
open Sx Go.RowKit Mr
structure CbV (P : World → Prop) (A0 A : Value → World → Prop) (C : Value → Value) (b0 b1 b2 b3 b4 : Bool) (v0 v1 v2 v3 v4 : Value) (W : World) : Prop where
 p : P W
 y : b0 = true → A0 v0 W
 x : ∃ v', (b1 = true → v1 = C v' ∧ A v' W) ∧ (b2 = true → v2 = C v') ∧ (b3 = true → v3 = v') ∧ (b4 = true → v4 = v')
 n0 : b0 = false → b1 = false
 n1 : b1 = false → b2 = false
 n2 : b2 = false → b3 = false
 n3 : b3 = false → b4 = false
section
variable {P : World → Prop} {A0 A : Value → World → Prop} {C : Value → Value} {b0 b1 b2 b3 b4 : Bool} {v0 v1 v2 v3 v4 v' : Value} {W w2 : World}
theorem CbV.start (h : P W) : CbV P A0 A C false false false false false v0 v1 v2 v3 v4 W := ⟨h, (fun e => by cases e), ⟨.bool false, (fun e => by cases e), (fun e => by cases e), (fun e => by cases e), (fun e => by cases e)⟩, fun _ => rfl, fun _ => rfl, fun _ => rfl, fun _ => rfl⟩
theorem CbV.mk0 (h : CbV P A0 A C false b1 b2 b3 b4 v0 v1 v2 v3 v4 W) (hp : P w2) (ha : A0 v' w2) : CbV P A0 A C true b1 b2 b3 b4 v' v1 v2 v3 v4 w2 := by
 have h1 := h.n0 rfl
 subst h1
 have h2 := h.n1 rfl
 subst h2
 have h3 := h.n2 rfl
 subst h3
 have h4 := h.n3 rfl
 subst h4
 exact ⟨hp, (fun _ => ha), ⟨.bool false, (fun e => by cases e), (fun e => by cases e), (fun e => by cases e), (fun e => by cases e)⟩, (fun e => by cases e), fun _ => rfl, fun _ => rfl, fun _ => rfl⟩
theorem CbV.mk1 (h : CbV P A0 A C true false b2 b3 b4 v0 v1 v2 v3 v4 W) (hp : P w2) (h0 : A0 v0 w2) (ha : A v' w2) : CbV P A0 A C true true b2 b3 b4 v0 (C v') v2 v3 v4 w2 := by
 have h2 := h.n1 rfl
 subst h2
 have h3 := h.n2 rfl
 subst h3
 have h4 := h.n3 rfl
 subst h4
 exact ⟨hp, (fun _ => h0), ⟨v', (fun _ => ⟨rfl, ha⟩), (fun e => by cases e), (fun e => by cases e), (fun e => by cases e)⟩, (fun e => by cases e), (fun e => by cases e), fun _ => rfl, fun _ => rfl⟩
theorem CbV.val1 (h : CbV P A0 A C b0 true b2 b3 b4 v0 v1 v2 v3 v4 W) : ∃ v', v1 = C v' := by
 obtain ⟨v', h1, -⟩ := h.x
 exact ⟨v', (h1 rfl).1⟩
theorem CbV.val2 (h : CbV P A0 A C b0 b1 true b3 b4 v0 v1 v2 v3 v4 W) : ∃ v', v2 = C v' := by
 obtain ⟨v', -, h1, -⟩ := h.x
 exact ⟨v', h1 rfl⟩
theorem CbV.mk2 (h : CbV P A0 A C b0 true false b3 b4 v0 v1 v2 v3 v4 W) : CbV P A0 A C b0 true true b3 b4 v0 v1 v1 v3 v4 W := by
 obtain ⟨v', h1, h2, h3, h4⟩ := h.x
 exact ⟨h.p, h.y, ⟨v', h1, (fun _ => (h1 rfl).1), h3, h4⟩, h.n0, (fun e => by cases e), (fun e => by cases e), h.n3⟩
theorem CbV.mk3 (hC : ∀ x y, C x = C y → x = y) (h : CbV P A0 A C b0 b1 true false b4 v0 v1 (C v2) v3 v4 W) : CbV P A0 A C b0 b1 true true b4 v0 v1 (C v2) v2 v4 W := by
 obtain ⟨v', h1, h2, h3, h4⟩ := h.x
 obtain rfl := hC _ _ (h2 rfl)
 exact ⟨h.p, h.y, ⟨_, h1, h2, (fun _ => rfl), h4⟩, h.n0, h.n1, (fun e => by cases e), (fun e => by cases e)⟩
theorem CbV.mk4 (h : CbV P A0 A C b0 b1 b2 true false v0 v1 v2 v3 v4 W) : CbV P A0 A C b0 b1 b2 true true v0 v1 v2 v3 v3 W := by
 obtain ⟨v', h1, h2, h3, h4⟩ := h.x
 exact ⟨h.p, h.y, ⟨v', h1, h2, h3, h3⟩, h.n0, h.n1, h.n2, (fun e => by cases e)⟩
theorem CbV.fin (h : CbV P A0 A C true true true true true v0 v1 v2 v3 v4 W) : P W ∧ v1 = C v4 ∧ v2 = C v4 ∧ v3 = v4 ∧ A v4 W := by
 obtain ⟨v', h1, h2, h3, h4⟩ := h.x
 obtain rfl := h4 rfl
 exact ⟨h.p, (h1 rfl).1, h2 rfl, h3 rfl, (h1 rfl).2⟩
end
def preM (a : RegA) (k : Nat) : List ByteArray := (a.ps.take k).flatMap fun p => (lf p).ms
theorem preM_snoc {a : RegA} {k : Nat} {p : ByteArray × List Ent} (h : a.ps[k]? = some p) : preM a (k + 1) = preM a k ++ (lf p).ms := by
 unfold preM
 rw [take_snoc h, List.flatMap_append]
 simp
theorem preM_all (a : RegA) : preM a a.ps.length = allM a := by unfold preM allM; rw [List.take_length]
theorem preM_part {a : RegA} {k : Nat} {p : ByteArray × List Ent} (h : a.ps[k]? = some p) : ∃ r, allM a = preM a k ++ (lf p).ms ++ r := by
 refine ⟨(a.ps.drop (k + 1)).flatMap fun p => (lf p).ms, ?_⟩
 rw [← preM_snoc h]
 unfold preM allM
 rw [← List.flatMap_append, List.take_append_drop]
theorem flatE_EvAt {B c : Nat} {a : Option Addr} {h : List Evt} {W : World} (ho : W.ownsRow B 29 6 (.slice a h.length c) h.length (flatE h)) : EvAt a h W := fun hn => by
 have hl : h.length ≠ 0 := fun e => hn (List.length_eq_zero_iff.1 e)
 obtain ⟨b, rfl, hb, hc⟩ := row_cells (b := 0) (c := c) ho hl
 refine ⟨b, 0, rfl, hb, fun k e hk j u hj => ?_⟩
 rw [Nat.zero_add]
 exact hc _ _ (flatE_at hk hj)
theorem OkA.legA {a : RegA} (ho : OkA a) {p : ByteArray × List Ent} (hp : p ∈ a.ps) : LegA p.1 (evsOf p.2) := by
 obtain ⟨h1, h2, h3, h4⟩ := ho.p p hp
 exact ⟨h4, by rw [evs_len]; exact h1, h2, h3⟩
def EvSl (es : List Ent) (v : Value) (W : World) : Prop := ∃ a c, v = .slice a (evsOf es).length c ∧ EvAt a (evsOf es) W
end Go.Proofs.YtmpilgkfbibhlaaGreatDoor
