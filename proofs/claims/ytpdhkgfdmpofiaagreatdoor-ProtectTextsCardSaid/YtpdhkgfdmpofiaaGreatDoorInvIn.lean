/-
  Inside a fence: a region that draws its order, of operations that read, and one call, and one operation behind it: one walk of each operation, from whatever others have been carried out.
-/
import Derived.Test.YtpdhkgfdmpofiaaGreatDoorInv2
import Derived.OrdersIn
set_option linter.unusedSimpArgs false
set_option linter.unusedVariables false
namespace Go.Proofs.YtpdhkgfdmpofiaaGreatDoor
open Go.RowKit

section
variable {F : Fence} {n : Nat} {P : Program} {ops : Array Oper} {Q : Exit → Act → World → Prop}

/-- What an operation waits for. -/
def waits (ops : Array Oper) (i : Nat) : List Nat := ((ops[i]?).map fun o => (o.after.toList.filter (Region.binds .any)).map (·.on)).getD []
def ancs (ops : Array Oper) : Nat → Nat → List Nat
  | 0, _ => []
  | f + 1, i => waits ops i ++ (waits ops i).flatMap (ancs ops f)
def Shut (ops : Array Oper) (l : Array Bool) : Prop := ∀ i, l.getD i false = true → ∀ j ∈ waits ops i, l.getD j false = true
theorem Shut.anc {l : Array Bool} (h : Shut ops l) : ∀ f i, l.getD i false = true → ∀ j ∈ ancs ops f i, l.getD j false = true := by
  intro f
  induction f with
  | zero => intro i _ j hj; cases hj
  | succ f ih =>
    intro i hi j hj
    rcases List.mem_append.1 hj with hj | hj
    · exact h i hi j hj
    · obtain ⟨k, hk, hkj⟩ := List.mem_flatMap.1 hj
      exact ih k (h i hi k hk) j hkj
theorem waits_ok {l : Array Bool} {i : Nat} {o : Oper} (ho : ops[i]? = some o) (h : (o.after.all fun e => !Region.binds .any e || l.getD e.on false) = true) : ∀ j ∈ waits ops i, l.getD j false = true := by
  intro j hj
  unfold waits at hj
  rw [ho] at hj
  simp only [Option.map_some, Option.getD_some] at hj
  obtain ⟨e, he, rfl⟩ := List.mem_map.1 hj
  obtain ⟨he1, he2⟩ := List.mem_filter.1 he
  rw [Array.all_eq_true'] at h
  have := h e (by simpa using he1)
  rw [he2] at this
  simpa using this
theorem getD_tf {l : Array Bool} {i : Nat} (h : l.getD i true = false) : l.getD i false = false := by
  rw [Array.getD_eq_getD_getElem?] at h ⊢
  cases hx : l[i]? with
  | none => rw [hx] at h; simp at h
  | some x => rw [hx] at h; simpa using h
theorem getD_ft {l : Array Bool} {i : Nat} (hi : i < l.size) (h : l.getD i false = true) : l.getD i true = true := by
  rw [Array.getD_eq_getD_getElem?] at h ⊢
  rw [Array.getElem?_eq_getElem hi] at h ⊢
  simpa using h
theorem getD_tt {l : Array Bool} {i : Nat} (hi : i < l.size) (h : l.getD i true = true) : l.getD i false = true := by
  rw [Array.getD_eq_getD_getElem?] at h ⊢
  rw [Array.getElem?_eq_getElem hi] at h ⊢
  simpa using h
theorem getD_set1 {l : Array Bool} {i j : Nat} {b : Bool} (hi : i < l.size) : (l.setIfInBounds i true).getD j b = if i = j then true else l.getD j b := by
  rw [Array.getD_eq_getD_getElem?, Array.getD_eq_getD_getElem?, Array.getElem?_setIfInBounds]
  split
  · simp [hi]
  · rfl
theorem Shut.set {l : Array Bool} {i : Nat} (h : Shut ops l) (hi : i < l.size) (hw : ∀ j ∈ waits ops i, l.getD j false = true) : Shut ops (l.setIfInBounds i true) := by
  intro k hk j hj
  rw [getD_set1 hi] at hk ⊢
  split
  · rfl
  · by_cases e : i = k
    · subst e; exact hw j hj
    · rw [if_neg e] at hk
      exact h k hk j hj

theorem any_invIn (he : early ops = true) (I : Array Bool → Act → World → Prop) (hsz : ∀ l a w, I l a w → l.size = ops.size)
    (step : ∀ i o, ops[i]? = some o → ∀ l a w, I l a w → l.getD i true = false → (o.after.all fun e => !Region.binds .any e || l.getD e.on false) = true → wpOpIn F n P ops Q i (I (l.setIfInBounds i true)) a w)
    (done : ∀ l a w, I l a w → (∀ i, i < ops.size → l.getD i true = true) → Q .normal a w) :
    ∀ fuel l a w, I l a w → left l ≤ fuel → wpAnyIn F n P .any ops Q fuel l a w := by
  intro fuel
  induction fuel with
  | zero =>
    intro l a w hI hf
    have hr : Region.ready .any ops l = [] := by
      rw [List.eq_nil_iff_forall_not_mem]
      intro i hi
      obtain ⟨h1, h2, _⟩ := ready_iff hi
      have := left_set (by rw [hsz l a w hI]; exact h1) h2
      omega
    exact ⟨hr, done l a w hI (all_listed (hsz l a w hI) he hr)⟩
  | succ n ih =>
    intro l a w hI hf
    refine ⟨fun hr => done l a w hI (all_listed (hsz l a w hI) he hr), fun i hi => ?_⟩
    obtain ⟨h1, h2, h3⟩ := ready_iff hi
    have ho : ops[i]? = some ops[i] := Array.getElem?_eq_getElem h1
    have hl := left_set (by rw [hsz l a w hI]; exact h1) h2
    exact wpOpIn_mono (fun a' w' h' => ih _ a' w' h' (by omega)) (step i _ ho l a w hI h2 (h3 _ ho))

/-- THE RULE: N operations that read alone; the call; what stands behind it. -/
theorem regionIn_head {id : Nat} {a : Act} {w : World} (N : Nat) (hm : P.follows .mixedOrders = true) (he : early ops = true) (hs0 : ops.size = N + 2)
    (hA : ((List.range N).all fun j => (ancs ops 6 N).contains j) = true) (hB : (waits ops (N + 1)).contains N = true) (I : Array Bool → Act → Prop) (h0 : I (Array.replicate ops.size false) a)
    (step : ∀ i o, i < N → ops[i]? = some o → ∀ l a, I l a → l.size = ops.size → l.getD i true = false → (o.after.all fun e => !Region.binds .any e || l.getD e.on false) = true →
      wpOpIn F n P ops Q i (fun a' w' => w' = w.drew ∧ I (l.setIfInBounds i true) a') a w.drew)
    (tail : ∀ l a, I l a → l.size = ops.size → (∀ j, j < N → l.getD j true = true) → wpOpIn F n P ops Q N (fun a1 w1 => wpOpIn F n P ops Q (N + 1) (fun a2 w2 => Q .normal a2 w2) a1 w1) a w.drew) :
    (Code.region id ops true).wpIn F n P Q a w := by
  have hA' : ∀ j, j < N → j ∈ ancs ops 6 N := fun j hj => by simpa using List.all_eq_true.1 hA j (List.mem_range.2 hj)
  have hB' : N ∈ waits ops (N + 1) := by simpa using hB
  refine wpIn_region_any hm (any_invIn he (fun l a w' => l.size = ops.size ∧ Shut ops l ∧ ((l.getD N true = false ∧ l.getD (N + 1) true = false ∧ w' = w.drew ∧ I l a) ∨
    (l.getD N false = true ∧ l.getD (N + 1) true = false ∧ wpOpIn F n P ops Q (N + 1) (fun a2 w2 => Q .normal a2 w2) a w') ∨ (l.getD N false = true ∧ l.getD (N + 1) false = true ∧ Q .normal a w'))) (fun l a w h => h.1) ?_ ?_ ops.size _ _ _ ?_ (by rw [left_new]; exact Nat.le_refl _))
  · rintro i o ho l a w' ⟨hs, hS, hJ⟩ hl hd
    have hio : i < ops.size := (Array.getElem?_eq_some_iff.1 ho).1
    have hil : i < l.size := by rw [hs]; exact hio
    have hw := waits_ok ho hd
    have hS2 := hS.set hil hw
    have hs2 : (l.setIfInBounds i true).size = ops.size := by simpa using hs
    have hi3 : i < N ∨ i = N ∨ i = N + 1 := by omega
    rcases hi3 with hi | rfl | rfl
    · rcases hJ with ⟨j1, j2, rfl, j3⟩ | ⟨j1, _⟩ | ⟨j1, _⟩
      · refine wpOpIn_mono ?_ (step i o hi ho l a j3 hs hl hd)
        rintro a' w'' ⟨rfl, h⟩
        refine ⟨hs2, hS2, Or.inl ⟨?_, ?_, rfl, h⟩⟩
        · rw [getD_set1 hil, if_neg (by omega)]; exact j1
        · rw [getD_set1 hil, if_neg (by omega)]; exact j2
      · exact absurd (hS.anc 6 N j1 i (hA' i hi)) (by rw [getD_tf hl]; decide)
      · exact absurd (hS.anc 6 N j1 i (hA' i hi)) (by rw [getD_tf hl]; decide)
    · rcases hJ with ⟨j1, j2, rfl, j3⟩ | ⟨j1, _⟩ | ⟨j1, _⟩
      · have hall : ∀ j, j < i → l.getD j true = true := by
          intro j hj
          have := hS2.anc 6 i (by rw [getD_set1 hil, if_pos rfl]) j (hA' j hj)
          rw [getD_set1 hil, if_neg (by omega)] at this
          exact getD_ft (by omega) this
        refine wpOpIn_mono ?_ (tail l a j3 hs hall)
        intro a' w'' h
        refine ⟨hs2, hS2, Or.inr (Or.inl ⟨?_, ?_, h⟩)⟩
        · rw [getD_set1 hil, if_pos rfl]
        · rw [getD_set1 hil, if_neg (by omega)]; exact j2
      · exact absurd j1 (by rw [getD_tf hl]; decide)
      · exact absurd j1 (by rw [getD_tf hl]; decide)
    · have hN := hw N hB'
      rcases hJ with ⟨j1, _⟩ | ⟨j1, j2, j3⟩ | ⟨_, j1, _⟩
      · exact absurd hN (by rw [getD_tf j1]; decide)
      · refine wpOpIn_mono ?_ j3
        intro a' w'' h
        refine ⟨hs2, hS2, Or.inr (Or.inr ⟨?_, ?_, h⟩)⟩
        · rw [getD_set1 hil, if_neg (by omega)]; exact j1
        · rw [getD_set1 hil, if_pos rfl]
      · exact absurd j1 (by rw [getD_tf hl]; decide)
  · rintro l a w' ⟨hs, hS, hJ⟩ hall
    rcases hJ with ⟨j1, _⟩ | ⟨_, j1, _⟩ | ⟨_, _, j⟩
    · rw [hall N (by omega)] at j1; cases j1
    · rw [hall (N + 1) (by omega)] at j1; cases j1
    · exact j
  · refine ⟨by simp, fun i hi => ?_, Or.inl ⟨?_, ?_, rfl, h0⟩⟩
    · rw [Array.getD_eq_getD_getElem?] at hi
      by_cases h : i < ops.size
      · simp [h] at hi
      · simp [h] at hi
    · simp [Array.getD_eq_getD_getElem?, hs0]
    · simp [Array.getD_eq_getD_getElem?, hs0]

theorem wpOpIn_plain {i : Nat} {o : Oper} {K : Act → World → Prop} {a : Act} {w : World} (hi : ops[i]? = some o) (hg : o.guard = none) (h : o.wpIn F n P a w K Q) : wpOpIn F n P ops Q i K a w := by
  unfold wpOpIn
  rw [hi]
  simp only [Region.wanted, hg, if_true]
  exact h
theorem step_in {i : Nat} {K : Act → World → Prop} {a : Act} {w : World} {a' : Act} {w' : World} (h : ∀ K' : Act → World → Prop, K' a' w' → wpOpIn F n P ops Q i K' a w) (hk : K a' w') : wpOpIn F n P ops Q i K a w := h K hk
end

end Go.Proofs.YtpdhkgfdmpofiaaGreatDoor
