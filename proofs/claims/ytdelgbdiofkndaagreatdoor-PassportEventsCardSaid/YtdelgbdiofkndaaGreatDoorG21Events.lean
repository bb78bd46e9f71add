/-
  The reference's Parse: up to the end of its loop.
-/
import Derived.Test.YtdelgbdiofkndaaGreatDoorG19Events
set_option linter.unusedSimpArgs false
set_option linter.unusedVariables false
namespace Go.Proofs.YtdelgbdiofkndaaGreatDoor
open Sx Go.RowKit Mr
def wdB (k : Nat) : ByteArray := ⟨(word k).toArray⟩
/-- The kind that the first m words give. -/
def kdU (z : List UInt8) : Nat → Nat
  | 0 => 0
  | m + 1 => if word ((m + 1 : Nat) : Int) = z then m + 1 else kdU z m
/-- The box that stays: the result's. -/
def KR (w : World) : List (Nat × Obj) := [(w.heap.size, .cells evZ 23 (0, 0))]
theorem rz_res {w W : World} {g c bx : Nat} {zs : List ByteArray} {cs : Array Value} (h : PZ w (KR w) g c bx zs cs W) : W.heap[w.heap.size]? = some (.cells evZ 23 (0, 0)) :=
  h.obj (q := (w.heap.size, .cells evZ 23 (0, 0))) (by simp [KR])
theorem rz_ne {w W : World} {g c bx : Nat} {zs : List ByteArray} {cs : Array Value} (h : PZ w (KR w) g c bx zs cs W) (h0 : zs ≠ []) : bx ≠ w.heap.size ∧ g ≠ bx := by
  refine ⟨fun e => ?_, fun e => ?_⟩
  · exact h.hK (w.heap.size, .cells evZ 23 (0, 0)) (by simp [KR]) e.symm
  · obtain ⟨⟨L, h1, h2, h3⟩, h4, h5⟩ := h
    exact h1.hL bx _ 0 _ h3 rfl (by rw [← e]; rfl)
theorem rz_own {w W1 : World} {v : Value} {ts : List ByteArray} (ho : StO W1 (w.heap.size + 1) v ts) (hb : Below (w.alloc (.cells evZ 23)).heap.size (w.alloc (.cells evZ 23)) W1) :
    ∃ L, MR w w.heap.size L (o1 (some ⟨9, 1, v, ts.length, ts.map Value.string⟩)) (W1.alloc (.cells (em5.map Value.string).toArray 9)) ∧ L w.heap.size = some (.cells evZ 23 (0, 0)) := by
  have h0 : MR w w.heap.size (fun _ => none) (fun _ => none) w := MR.start (Nat.le_refl _) (Below.refl _ _) (Nat.le_refl _) fun p o e => by cases e
  have h1 := h0.obj (.cells evZ 23 (0, 0))
  have s1 : (w.alloc (.cells evZ 23)).heap.size = w.heap.size + 1 := by simp
  have h2 := h1.call 0 (r := ⟨9, 1, v, ts.length, ts.map Value.string⟩) hb (by
    show W1.ownsRow _ 9 1 v ts.length (ts.map Value.string)
    rw [s1]; exact ho)
  have h3 := h2.step (bAl (o := .cells (em5.map Value.string).toArray 9))
  exact ⟨_, h3.congr fun s => by unfold o1 updF; by_cases c : s = 0 <;> simp [c], updF_at⟩
theorem rz_behind {w W4 w5 : World} {ts : List ByteArray} {v v' : Value} (h : ∃ L, MR w w.heap.size L (o1 (some ⟨9, 1, v, ts.length, ts.map Value.string⟩)) W4 ∧ L w.heap.size = some (.cells evZ 23 (0, 0)))
    (ho : w5.ownsRow w.heap.size 9 1 v' (ts.length + 5) (ts.map Value.string ++ em5.map Value.string)) (hg : W4.grownBy w5 v.ownBlock) (hat : v'.ownBlock = v.ownBlock ∨ v'.ownBlock = some W4.heap.size) :
    ∃ g c, v' = .slice (some ⟨g, 0, none⟩) (ts.length + 5) c ∧ PZ w (KR w) g c w5.heap.size (ts ++ em5) evZ (w5.alloc (.cells evZ 23)) := by
  obtain ⟨L, h1, h2⟩ := h
  have ho' : (⟨9, 1, v', (ts ++ em5).length, (ts ++ em5).map Value.string⟩ : Rw).Own w5 w.heap.size := by
    show w5.ownsRow w.heap.size 9 1 v' (ts ++ em5).length ((ts ++ em5).map Value.string)
    rw [List.length_append, List.map_append]
    exact ho
  have k1 := h1.app 0 (r' := ⟨9, 1, v', (ts ++ em5).length, (ts ++ em5).map Value.string⟩) rfl ho' hg hat
  have k3 := k1.obj (.cells evZ 23 (0, 0))
  obtain ⟨a, c, e1, e2⟩ := ho'.get
  obtain ⟨g, rfl, hgl, -⟩ := e2 (by simp [em5])
  dsimp only at e1
  have hl : (ts ++ em5).length = ts.length + 5 := by rw [List.length_append]; rfl
  rw [hl] at e1
  have b4 := blk_lt (k1.sb _ _ h2)
  refine ⟨g, c, e1, ⟨_, k3.congr fun s => ?_, fun q hq => ?_, updF_at⟩, fun q hq => ?_, by omega⟩
  · rw [o1_upd]
    unfold zR
    rw [hl, e1]
  · unfold KR at hq
    simp only [List.mem_cons, List.not_mem_nil, or_false] at hq
    subst hq
    rw [updF_ne (by show w.heap.size ≠ w5.heap.size; omega)]
    exact h2
  · unfold KR at hq
    simp only [List.mem_cons, List.not_mem_nil, or_false] at hq
    subst hq
    show w.heap.size ≠ w5.heap.size; omega
set_option maxHeartbeats 4000000 in
theorem RWord_any (k : Nat) (w : World) (h1 : 1 ≤ k) (h9 : k ≤ 9) : Calls Tryz.prog 23 #[.int .i64 k] w fun e w' => e = .returned (.string (wdB k)) ∧ Below w.heap.size w w' := by
  have hc : k = 1 ∨ k = 2 ∨ k = 3 ∨ k = 4 ∨ k = 5 ∨ k = 6 ∨ k = 7 ∨ k = 8 ∨ k = 9 := by omega
  clear h1 h9
  rcases hc with rfl | rfl | rfl | rfl | rfl | rfl | rfl | rfl | rfl
  · have hw : wdB 1 = ⟨#[109, 97, 100, 101]⟩ := rfl
    rw [hw]
    clear hw
    go_enter Tryz.func23, Tryz.ntmps23
    go_wp2_with fail
    exact bodyPost_ret (v := .string ⟨#[109, 97, 100, 101]⟩) (by simp only [results, Tryz.results23]; go_simp) rfl ⟨rfl, (by repeat' (first | exact Below.refl _ _ | assumption | apply bDrewN | apply bDrew | apply bAlloc | (refine bSet ?_ ?_ _) | (refine bStep ?_ (by assumption)) | omega | (simp <;> omega)))⟩
  · have hw : wdB 2 = ⟨#[117, 115, 101]⟩ := rfl
    rw [hw]
    clear hw
    go_enter Tryz.func23, Tryz.ntmps23
    go_wp2_with fail
    exact bodyPost_ret (v := .string ⟨#[117, 115, 101]⟩) (by simp only [results, Tryz.results23]; go_simp) rfl ⟨rfl, (by repeat' (first | exact Below.refl _ _ | assumption | apply bDrewN | apply bDrew | apply bAlloc | (refine bSet ?_ ?_ _) | (refine bStep ?_ (by assumption)) | omega | (simp <;> omega)))⟩
  · have hw : wdB 3 = ⟨#[116, 101, 115, 116]⟩ := rfl
    rw [hw]
    clear hw
    go_enter Tryz.func23, Tryz.ntmps23
    go_wp2_with fail
    exact bodyPost_ret (v := .string ⟨#[116, 101, 115, 116]⟩) (by simp only [results, Tryz.results23]; go_simp) rfl ⟨rfl, (by repeat' (first | exact Below.refl _ _ | assumption | apply bDrewN | apply bDrew | apply bAlloc | (refine bSet ?_ ?_ _) | (refine bStep ?_ (by assumption)) | omega | (simp <;> omega)))⟩
  · have hw : wdB 4 = ⟨#[102, 97, 117, 108, 116]⟩ := rfl
    rw [hw]
    clear hw
    go_enter Tryz.func23, Tryz.ntmps23
    go_wp2_with fail
    exact bodyPost_ret (v := .string ⟨#[102, 97, 117, 108, 116]⟩) (by simp only [results, Tryz.results23]; go_simp) rfl ⟨rfl, (by repeat' (first | exact Below.refl _ _ | assumption | apply bDrewN | apply bDrew | apply bAlloc | (refine bSet ?_ ?_ _) | (refine bStep ?_ (by assumption)) | omega | (simp <;> omega)))⟩
  · have hw : wdB 5 = ⟨#[112, 117, 116]⟩ := rfl
    rw [hw]
    clear hw
    go_enter Tryz.func23, Tryz.ntmps23
    go_wp2_with fail
    exact bodyPost_ret (v := .string ⟨#[112, 117, 116]⟩) (by simp only [results, Tryz.results23]; go_simp) rfl ⟨rfl, (by repeat' (first | exact Below.refl _ _ | assumption | apply bDrewN | apply bDrew | apply bAlloc | (refine bSet ?_ ?_ _) | (refine bStep ?_ (by assumption)) | omega | (simp <;> omega)))⟩
  · have hw : wdB 6 = ⟨#[116, 97, 107, 101]⟩ := rfl
    rw [hw]
    clear hw
    go_enter Tryz.func23, Tryz.ntmps23
    go_wp2_with fail
    exact bodyPost_ret (v := .string ⟨#[116, 97, 107, 101]⟩) (by simp only [results, Tryz.results23]; go_simp) rfl ⟨rfl, (by repeat' (first | exact Below.refl _ _ | assumption | apply bDrewN | apply bDrew | apply bAlloc | (refine bSet ?_ ?_ _) | (refine bStep ?_ (by assumption)) | omega | (simp <;> omega)))⟩
  · have hw : wdB 7 = ⟨#[114, 101, 99, 97, 108, 108]⟩ := rfl
    rw [hw]
    clear hw
    go_enter Tryz.func23, Tryz.ntmps23
    go_wp2_with fail
    exact bodyPost_ret (v := .string ⟨#[114, 101, 99, 97, 108, 108]⟩) (by simp only [results, Tryz.results23]; go_simp) rfl ⟨rfl, (by repeat' (first | exact Below.refl _ _ | assumption | apply bDrewN | apply bDrew | apply bAlloc | (refine bSet ?_ ?_ _) | (refine bStep ?_ (by assumption)) | omega | (simp <;> omega)))⟩
  · have hw : wdB 8 = ⟨#[99, 108, 101, 97, 114]⟩ := rfl
    rw [hw]
    clear hw
    go_enter Tryz.func23, Tryz.ntmps23
    go_wp2_with fail
    exact bodyPost_ret (v := .string ⟨#[99, 108, 101, 97, 114]⟩) (by simp only [results, Tryz.results23]; go_simp) rfl ⟨rfl, (by repeat' (first | exact Below.refl _ _ | assumption | apply bDrewN | apply bDrew | apply bAlloc | (refine bSet ?_ ?_ _) | (refine bStep ?_ (by assumption)) | omega | (simp <;> omega)))⟩
  · have hw : wdB 9 = ⟨#[115, 99, 114, 97, 112]⟩ := rfl
    rw [hw]
    clear hw
    go_enter Tryz.func23, Tryz.ntmps23
    go_wp2_with fail
    exact bodyPost_ret (v := .string ⟨#[115, 99, 114, 97, 112]⟩) (by simp only [results, Tryz.results23]; go_simp) rfl ⟨rfl, (by repeat' (first | exact Below.refl _ _ | assumption | apply bDrewN | apply bDrew | apply bAlloc | (refine bSet ?_ ?_ _) | (refine bStep ?_ (by assumption)) | omega | (simp <;> omega)))⟩
end Go.Proofs.YtdelgbdiofkndaaGreatDoor
