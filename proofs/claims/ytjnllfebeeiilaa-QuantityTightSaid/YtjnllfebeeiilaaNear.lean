/-
  The walk of the law's 'near'.
-/
import Derived.Test.YtjnllfebeeiilaaIn
import Derived.Deep.DeepCutAuto
set_option linter.unusedSimpArgs false
set_option linter.unusedVariables false
namespace Go.Proofs.Ytjnllfebeeiilaa
open Go.RowKit

/-- A row of numbers in memory. -/
def Row (r : Nat) (f : Nat → Int) (m : Nat) (W : World) : Prop := ∀ k, k < m → W.cell? ⟨r, k, none⟩ = some (.int .i64 (f k))
theorem Row.step {r : Nat} {f : Nat → Int} {m : Nat} {W w2 : World} (h : Row r f m W) (hb : Below W.heap.size W w2) : Row r f m w2 := fun k hk => cell_step (h k hk) hb
theorem Row.drew {r : Nat} {f : Nat → Int} {m : Nat} {W : World} (h : Row r f m W) : Row r f m W.drew := fun k hk => h k hk
/-- What 'near' is to find: all fractions are in it, one is near its lower end, one near its upper one. -/
def Near (l u : Int) (xs ds : Nat → Int) (m : Nat) : Prop :=
  (∀ k, k < m → ds k ≠ 0 ∧ -131072 ≤ ds k ∧ ds k ≤ 131072 ∧ -17592186044416 ≤ xs k ∧ xs k ≤ 17592186044416 ∧ l * ((ds k).natAbs : Int) ≤ xs k * sg (ds k) ∧ xs k * sg (ds k) ≤ u * ((ds k).natAbs : Int)) ∧
  (∃ i, i < m ∧ xs i * sg (ds i) < l * ((ds i).natAbs : Int) + ((ds i).natAbs : Int)) ∧ (∃ j, j < m ∧ u * ((ds j).natAbs : Int) - ((ds j).natAbs : Int) < xs j * sg (ds j))

def NeSt (w : World) (l u : Int) (W : World) : Prop := W.cell? ⟨w.heap.size, 0, none⟩ = some (.int .i64 l) ∧ W.cell? ⟨w.heap.size, 1, none⟩ = some (.int .i64 u) ∧ Below w.heap.size w W

set_option maxHeartbeats 4000000 in
set_option maxRecDepth 20000 in
theorem near_yes (l u : Int) (xs ds : Nat → Int) (m : Nat) (r1 r2 : Nat) (w : World) (hm : m ≤ 4) (hR1 : Row r1 xs m w) (hR2 : Row r2 ds m w) (hl : -34359738368 ≤ l) (hu : u ≤ 34359738368) (hlu : l ≤ u) (hN : Near l u xs ds m) :
    Calls Try.prog 20 #[.agg #[.int .i64 l, .int .i64 u], .slice (some ⟨r1, 0, none⟩) m m, .slice (some ⟨r2, 0, none⟩) m m] w fun e w' => e = .returned (.bool true) ∧ Below w.heap.size w w' := by
  obtain ⟨hA, ⟨iL, hiL, hL⟩, ⟨iH, hiH, hH⟩⟩ := hN
  have HA := Lib.hid hA
  have HL := Lib.hid hL
  have HH := Lib.hid hH
  clear hA hL hH
  have R1 := Lib.hid hR1
  have R2 := Lib.hid hR2
  clear hR1 hR2
  go_enter Try.func20, Try.ntmps20
  go_wp2_with fail
  have hS : Hid (NeSt w l u (w.alloc (Obj.cells #[.int .i64 l, .int .i64 u] 27)) ∧ Row r1 xs m (w.alloc (Obj.cells #[.int .i64 l, .int .i64 u] 27)) ∧ Row r2 ds m (w.alloc (Obj.cells #[.int .i64 l, .int .i64 u] 27))) :=
    ⟨⟨by go_simp, by go_simp, (by repeat' (first | exact Below.refl _ _ | assumption | apply bDrewN | apply bDrew | apply bAlloc | (refine bSet ?_ ?_ _) | (refine bStep ?_ (by assumption)) | omega | (simp <;> omega)))⟩, R1.out.step ((Below.refl _ _).alloc (Nat.le_refl _) _), R2.out.step ((Below.refl _ _).alloc (Nat.le_refl _) _)⟩
  clear R1 R2
  go_loopw [7, 8, 9] (fun bl bh i wr => ∃ (k : Nat) (lo hi : Bool), k ≤ m ∧ i = .int .i64 k ∧ bl = .bool lo ∧ bh = .bool hi ∧ Hid (NeSt w l u wr ∧ Row r1 xs m wr ∧ Row r2 ds m wr) ∧ Hid ((iL < k → lo = true) ∧ (iH < k → hi = true))) (fun _ _ i _ => m - (intOf i).toNat)
  case atStart => exact ⟨0, false, false, by omega, rfl, rfl, rfl, hS, ⟨fun h => by omega, fun h => by omega⟩⟩
  case round =>
    obtain ⟨k, lo, hi, hk, rfl, rfl, rfl, HW, HB⟩ := hrel
    clear hS
    obtain ⟨⟨c1, c2, cB⟩, r1', r2'⟩ := id HW.out
    by_cases hlt : k < m
    · have e1 := r1' k hlt
      have e2 := r2' k hlt
      clear r1' r2'
      obtain ⟨a0, a1, a2, a3, a4, a5, a6⟩ := HA.out k hlt
      have hlow : iL = k → xs k * sg (ds k) < l * ((ds k).natAbs : Int) + ((ds k).natAbs : Int) := fun e => by rw [← e]; exact HL.out
      have hhigh : iH = k → u * ((ds k).natAbs : Int) - ((ds k).natAbs : Int) < xs k * sg (ds k) := fun e => by rw [← e]; exact HH.out
      generalize xs k = X at *
      generalize ds k = D at *
      have fin : ∀ (lo2 hi2 : Bool) (W : World), (lo = true → lo2 = true) → (hi = true → hi2 = true) → (iL = k → lo2 = true) → (iH = k → hi2 = true) → Below wr.heap.size wr W →
          ∃ (k' : Nat) (l' h' : Bool), k' ≤ m ∧ (.int .i64 ((k : Int) + 1) : Value) = .int .i64 k' ∧ (.bool lo2 : Value) = .bool l' ∧ (.bool hi2 : Value) = .bool h' ∧ Hid (NeSt w l u W ∧ Row r1 xs m W ∧ Row r2 ds m W) ∧ Hid ((iL < k' → l' = true) ∧ (iH < k' → h' = true)) := by
        intro lo2 hi2 W q1 q2 q3 q4 hb
        obtain ⟨⟨b1, b2, b3⟩, b4, b5⟩ := HW.out
        obtain ⟨b6, b7⟩ := HB.out
        refine ⟨k + 1, lo2, hi2, by omega, by simp, rfl, rfl, ⟨⟨cell_step b1 hb, cell_step b2 hb, bStep b3 hb⟩, b4.step hb, b5.step hb⟩, fun h => ?_, fun h => ?_⟩
        · rcases Nat.lt_or_ge iL k with h' | h'
          · exact q1 (b6 h')
          · exact q3 (by omega)
        · rcases Nat.lt_or_ge iH k with h' | h'
          · exact q2 (b7 h')
          · exact q4 (by omega)
      have FIN := Lib.hid fin
      clear fin HW HB HA HL HH
      by_cases hs : D < 0
      · have e3 : (D.natAbs : Int) = -D := by omega
        rw [sg_neg hs, e3] at a5 a6 hlow hhigh
        have a7 : l * -D ≤ -X := by omega
        have a8 : -X ≤ u * -D := by omega
        have hlow : iL = k → -X < l * -D + -D := fun e => by have := hlow e; omega
        have hhigh : iH = k → u * -D - -D < -X := fun e => by have := hhigh e; omega
        clear a5 a6 e3
        go_wp2_with fail
        go_quiet (fail)
        go_upto_region 8 with fail
        generalize -X = N at *
        generalize hK : -D = K at *
        have hK1 : 1 ≤ K := by omega
        have hK2 : K ≤ 131072 := by omega
        clear hK
        have b1 := pr_bd (a := l) (k := K) hl (by omega) (by omega) (by omega)
        have b2 := pr_bd (a := u) (k := K) (by omega) hu (by omega) (by omega)
        obtain ⟨b1, b1'⟩ := b1
        obtain ⟨b2, b2'⟩ := b2
        have t1 : (l + 1) * K = l * K + K := by rw [Int.add_mul, Int.one_mul]
        have t2 : (u - 1) * K = u * K - K := by rw [Int.sub_mul, Int.one_mul]
        rw [← t1] at hlow
        rw [← t2] at hhigh
        have b3 : -4503599627501568 ≤ (l + 1) * K := by omega
        have b4 : (l + 1) * K ≤ 4503599627501568 := by omega
        have b5 : -4503599627501568 ≤ (u - 1) * K := by omega
        have b6 : (u - 1) * K ≤ 4503599627501568 := by omega
        have HLO := Lib.hid hlow
        have HHI := Lib.hid hhigh
        clear t1 t2 hlow hhigh
        have FIN2 : ∀ (lo2 hi2 : Bool) (W : World), (lo = true → lo2 = true) → (hi = true → hi2 = true) → (¬ N < (l + 1) * K ∨ lo2 = true) → (¬ (u - 1) * K < N ∨ hi2 = true) → Below wr.heap.size wr W →
            ∃ (k' : Nat) (l' h' : Bool), k' ≤ m ∧ (.int .i64 ((k : Int) + 1) : Value) = .int .i64 k' ∧ (.bool lo2 : Value) = .bool l' ∧ (.bool hi2 : Value) = .bool h' ∧ Hid (NeSt w l u W ∧ Row r1 xs m W ∧ Row r2 ds m W) ∧ Hid ((iL < k' → l' = true) ∧ (iH < k' → h' = true)) :=
          fun lo2 hi2 W q1 q2 q3 q4 hb => FIN.out lo2 hi2 W q1 q2 (fun e => q3.elim (fun c => absurd (HLO.out e) c) id) (fun e => q4.elim (fun c => absurd (HHI.out e) c) id) hb
        have FIN2 := Lib.hid FIN2
        clear FIN HLO HHI
        have fin3 : (lo = true ∨ (N < (l + 1) * K ∨ (l + 1) * K ≤ N)) ∧ (hi = true ∨ ((u - 1) * K < N ∨ N ≤ (u - 1) * K)) := by omega
        obtain ⟨hf1, hf2⟩ := fin3
        rcases hf1 with rfl | hf1 | hf1 <;> rcases hf2 with rfl | hf2 | hf2 <;> (try cases lo) <;> (try cases hi)
        all_goals
          go_wp2_with fail
          go_roundw
          case rel => exact FIN2.out _ _ _ (by simp) (by simp) (by first | exact Or.inr rfl | exact Or.inl (by omega)) (by first | exact Or.inr rfl | exact Or.inl (by omega)) (by first | exact (by repeat' (first | exact Below.refl _ _ | assumption | apply bDrewN | apply bDrew | apply bAlloc | (refine bSet ?_ ?_ _) | (refine bStep ?_ (by assumption)) | omega | (simp <;> omega))) | assumption)
          case measure => (simp [intOf]; omega)
      · rw [sg_pos (show 0 < D by omega), show (D.natAbs : Int) = D by omega, Int.mul_one] at a5 a6
        have hlow : iL = k → X < l * D + D := fun e => by have := hlow e; rw [sg_pos (show 0 < D by omega), show (D.natAbs : Int) = D by omega] at this; omega
        have hhigh : iH = k → u * D - D < X := fun e => by have := hhigh e; rw [sg_pos (show 0 < D by omega), show (D.natAbs : Int) = D by omega] at this; omega
        go_wp2_with fail
        go_quiet (fail)
        go_upto_region 8 with fail
        have b1 := pr_bd (a := l) (k := D) hl (by omega) (by omega) (by omega)
        have b2 := pr_bd (a := u) (k := D) (by omega) hu (by omega) (by omega)
        obtain ⟨b1, b1'⟩ := b1
        obtain ⟨b2, b2'⟩ := b2
        have t1 : (l + 1) * D = l * D + D := by rw [Int.add_mul, Int.one_mul]
        have t2 : (u - 1) * D = u * D - D := by rw [Int.sub_mul, Int.one_mul]
        rw [← t1] at hlow
        rw [← t2] at hhigh
        have b3 : -4503599627501568 ≤ (l + 1) * D := by omega
        have b4 : (l + 1) * D ≤ 4503599627501568 := by omega
        have b5 : -4503599627501568 ≤ (u - 1) * D := by omega
        have b6 : (u - 1) * D ≤ 4503599627501568 := by omega
        have HLO := Lib.hid hlow
        have HHI := Lib.hid hhigh
        clear t1 t2 hlow hhigh
        have FIN2 : ∀ (lo2 hi2 : Bool) (W : World), (lo = true → lo2 = true) → (hi = true → hi2 = true) → (¬ X < (l + 1) * D ∨ lo2 = true) → (¬ (u - 1) * D < X ∨ hi2 = true) → Below wr.heap.size wr W →
            ∃ (k' : Nat) (l' h' : Bool), k' ≤ m ∧ (.int .i64 ((k : Int) + 1) : Value) = .int .i64 k' ∧ (.bool lo2 : Value) = .bool l' ∧ (.bool hi2 : Value) = .bool h' ∧ Hid (NeSt w l u W ∧ Row r1 xs m W ∧ Row r2 ds m W) ∧ Hid ((iL < k' → l' = true) ∧ (iH < k' → h' = true)) :=
          fun lo2 hi2 W q1 q2 q3 q4 hb => FIN.out lo2 hi2 W q1 q2 (fun e => q3.elim (fun c => absurd (HLO.out e) c) id) (fun e => q4.elim (fun c => absurd (HHI.out e) c) id) hb
        have FIN2 := Lib.hid FIN2
        clear FIN HLO HHI
        have fin3 : (lo = true ∨ (X < (l + 1) * D ∨ (l + 1) * D ≤ X)) ∧ (hi = true ∨ ((u - 1) * D < X ∨ X ≤ (u - 1) * D)) := by omega
        obtain ⟨hf1, hf2⟩ := fin3
        rcases hf1 with rfl | hf1 | hf1 <;> rcases hf2 with rfl | hf2 | hf2 <;> (try cases lo) <;> (try cases hi)
        all_goals
          go_wp2_with fail
          go_roundw
          case rel => exact FIN2.out _ _ _ (by simp) (by simp) (by first | exact Or.inr rfl | exact Or.inl (by omega)) (by first | exact Or.inr rfl | exact Or.inl (by omega)) (by first | exact (by repeat' (first | exact Below.refl _ _ | assumption | apply bDrewN | apply bDrew | apply bAlloc | (refine bSet ?_ ?_ _) | (refine bStep ?_ (by assumption)) | omega | (simp <;> omega))) | assumption)
          case measure => (simp [intOf]; omega)
    · obtain ⟨z1, z2⟩ := HB.out
      obtain rfl := z1 (by omega)
      obtain rfl := z2 (by omega)
      clear HW HB HA HL HH r1' r2'
      go_wp2_with fail
      go_ret
      exact ⟨rfl, (by repeat' (first | exact Below.refl _ _ | assumption | apply bDrewN | apply bDrew | apply bAlloc | (refine bSet ?_ ?_ _) | (refine bStep ?_ (by assumption)) | omega | (simp <;> omega)))⟩

end Go.Proofs.Ytjnllfebeeiilaa
