/-
  The walk of the reference's List: the words of a message.
-/
import Derived.Test.YtlhponankanlmaaGreatDoorG1Nil9
import Derived.WalkKit
import Derived.Test.YtlhponankanlmaaGreatDoorRows
import Derived.Shelf.Strconv.Itoa4
import Derived.KernelRfl
import Derived.Laws.IdiomStrings
import Derived.Shelf.Strings.OnBuilder
import Derived.Test.YtlhponankanlmaaGreatDoorProg
import Derived.Shelf.Strings.Builder1
import Derived.Shelf.Strings.Builder2
import Derived.Shelf.Strconv.Itoa0
import Derived.Shelf.Strconv.Itoa1
import Derived.Shelf.LaysM
import Derived.Shelf.Strconv.Itoa2
import Derived.Shelf.Strconv.Itoa3
import Derived.Shelf.Strings.Search1
import Derived.Shelf.Strings.Search2
import Derived.Shelf.Strings.Cut
import Derived.Shelf.Strings.Shaped
set_option linter.unusedSimpArgs false
set_option linter.unusedVariables false
namespace Go.Proofs.YtlhponankanlmaaGreatDoor
open Go.RowKit

/-- A slice of bytes, as a value. -/
def BytV (a : Option Addr) (m : List Nat) (W : World) : Prop := m ≠ [] → ∃ b off, a = some ⟨b, off, none⟩ ∧ b < W.heap.size ∧ ∀ k, k < m.length → W.cell? ⟨b, off + k, none⟩ = some (.int .u8 (m.getD k 0 : Nat))
theorem BytV.step {a : Option Addr} {m : List Nat} {W w2 : World} (h : BytV a m W) (hb : Below W.heap.size W w2) : BytV a m w2 := fun hn => by
  obtain ⟨b, off, rfl, h1, h2⟩ := h hn
  exact ⟨b, off, rfl, Nat.lt_of_lt_of_le h1 hb.size, fun k hk => cell_step (h2 k hk) hb⟩
theorem BytV.src {a : Option Addr} {m : List Nat} {W : World} (h : BytV a m W) : m.length ≠ 0 → ∃ b, a = some b ∧ ∀ j u, (flatN .u8 m)[j]? = some u → W.cell? (b.add j) = some u := fun hn => by
  obtain ⟨b, off, rfl, h1, h2⟩ := h (fun e => hn (by rw [e]; rfl))
  refine ⟨_, rfl, fun j u hu => ?_⟩
  have hj : j < m.length := by rw [← flatN_len .u8 m]; exact (List.getElem?_eq_some_iff.1 hu).1
  have e : (flatN .u8 m)[j]? = some (.int .u8 (m.getD j 0 : Nat)) := by simp [flatN, List.getD_eq_getElem?_getD, List.getElem?_eq_getElem hj]
  rw [e] at hu
  obtain rfl := Option.some.inj hu
  rw [show ((⟨b, off, none⟩ : Addr).add j) = ⟨b, off + j, none⟩ by unfold Addr.add; split <;> simp_all]
  exact h2 j hj

theorem NOwn.read {W : World} {B e : Nat} {k : IntKind} {a : Option Addr} {n c : Nat} {xs : List Nat} (h : NOwn W B e k (.slice a n c) xs) {j : Nat} (hj : j < xs.length) : ∃ b off, a = some ⟨b, off, none⟩ ∧ W.cell? ⟨b, off + j, none⟩ = some (.int k (xs.getD j 0 : Nat)) := by
  obtain ⟨a', c', h1, h2⟩ := h.at_
  cases h1
  exact h2 j hj
theorem NOwn.step {W w2 : World} {B e : Nat} {k : IntKind} {v : Value} {xs : List Nat} (h : NOwn W B e k v xs) (hb : Below W.heap.size W w2) : NOwn w2 B e k v xs := own_step' h hb
def lnV : Value → Nat
  | .slice _ n _ => n
  | _ => 0
set_option maxHeartbeats 4000000 in
set_option maxRecDepth 20000 in
theorem List_any (b : Nat) (f : Int) (hb1 : 1 ≤ b) (hb3 : b ≤ 3) (hf : f + 1 = b) (a : Option Addr) (c : Nat) (m : List Nat) (w : World) (hB : Byt m) (hlen : m.length ≤ 2000) (hA : BytV a m w) :
    Calls Tryz.prog 157 #[.int .i64 f, .slice a m.length c] w fun e w' => ∃ v, e = .returned v ∧ NOwn w' w.heap.size 56 .u64 v (words b m) ∧ Below w.heap.size w w' := by
  obtain ⟨i0, hi, hz0, hz1, hz2⟩ := info_parts info8
  obtain ⟨j0, hj', hy0, hy1, hy2⟩ := info_parts info64
  have HA := Lib.hid hA
  clear hA
  have hbl : m.length + 1 ≤ b * (m.length / b + 1) := full_ge hb1
  have hdl : m.length / b ≤ 2000 := Nat.le_trans (Nat.div_le_self _ _) hlen
  have hL : b * (m.length / b + 1) ≤ 6003 := Nat.le_trans (Nat.mul_le_mul hb3 (show m.length / b + 1 ≤ 2001 by omega)) (by decide)
  have hnf : ∀ q, m.length + 1 ≤ q → q < b * (m.length / b + 1) → q % b ≠ 0 := fun q => not_full hb1
  have HW := Lib.hid (words_cons b m)
  generalize hq : m.length / b + 1 = q0 at *
  have hLb : (b * q0) % b = 0 := Nat.mul_mod_right b q0
  have hown : Hid ((w.alloc (.cells #[] 5)).ownsRow w.heap.size 5 1 (.slice (some ⟨w.heap.size, 0, none⟩) 0 0) 0 []) :=
    ⟨rfl, Or.inr ⟨w.heap.size, 0, #[], rfl, Nat.le_refl _, blk_new _ _, by omega, by decide, rfl, rfl⟩⟩
  have hsrc := Lib.hid ((HA.out.step ((Below.refl _ _).alloc (Nat.le_refl _) (.cells #[] 5))).src)
  have hFl : (flatN .u8 m).length = m.length * 1 := by rw [flatN_len]; omega
  have hone := flatN_one (k := .u8) (xs := m)
  have hP0 : Hid (∀ (v : Value) (W : World), W.ownsRow w.heap.size 5 1 v (0 + m.length + 1) ([] ++ flatN .u8 m ++ [.int .u8 1]) → NOwn W w.heap.size 5 .u8 v (pad m 0)) := fun v W h => by
    have h2 : W.ownsRow w.heap.size 5 1 v (m.length + 1) (flatN .u8 m ++ [.int .u8 (1 : Nat)]) := by simpa using h
    exact NOwn.more h2
  generalize flatN .u8 m = FF at *
  go_enter Tryz.func157, Tryz.ntmps157
  go_wp2_with (first | (at_builtin; refine wpList_append_src rfl (.tmp 13) (.tmp 14) 26 rfl (w.heap.size) 5 i0 (.int .u8 0) 1 1 Tryz.underlying26 hi hz0 hz1 hz2 rfl (by decide) _ _ _ rfl hown.out a m.length c FF rfl hFl hsrc.out hone (by unfold maxLen; omega) (by omega) (by simp) ?_; intro v1 w1 hO1 hg1; have kB1 : Below w.heap.size w w1 := ((Below.refl _ _).alloc (Nat.le_refl _) (.cells #[] 5)).grown hg1 (by simp) (own_ge' hown.out)) | (at_builtin; refine wpList_append_own _ rfl (.tmp 15) (.tmp 16) 26 rfl (w.heap.size) 5 i0 (.int .u8 0) 1 1 Tryz.underlying26 hi hz0 hz1 hz2 rfl (by decide) _ _ _ rfl (World.ownsRow.alloc hO1 _) ⟨w1.heap.size, 0, none⟩ 1 1 [.int .u8 1] rfl rfl (one_cellsN _ _ _ _) (one_oneN _ _) (by unfold maxLen; omega) (by omega) (by have := kB1.size; simp; omega) ?_; intro v2 w2 hO2 hg2 hnil2))
  have HO2 := Lib.hid (hP0.out _ _ hO2)
  have kB2 : Below w.heap.size w w2 := (kB1.alloc kB1.size (.cells #[.int .u8 1] 5)).grown hg2 (by have := kB1.size; simp; omega) (own_ge' hO1)
  clear hO1 hO2 hg1 hg2 hnil2 hP0 hsrc hone hFl hown kB1
  have hbz : (b : Int) ≠ 0 := by omega
  go_loopw [6] (fun v wr => ∃ j : Nat, m.length + 1 + j ≤ b * q0 ∧ Hid (NOwn wr w.heap.size 5 .u8 v (pad m j)) ∧ Below w.heap.size w wr) (fun v _ => b * q0 - lnV v)
  case atStart => exact ⟨0, by omega, HO2, kB2⟩
  case round =>
    obtain ⟨j, hj1, HO, kB⟩ := hrel
    obtain ⟨a', c', rfl, hc'⟩ := HO.out.at_
    have hpl := pad_len m j
    have HM := Lib.hid (pad_more m j)
    clear hc'
    by_cases hfull : m.length + 1 + j = b * q0
    · have hmod : ((pad m j).length : Int) % b = 0 := by rw [hpl, hfull]; exact_mod_cast hLb
      have hget : ∀ q, (pad m j).getD q 0 = bt m q := pad_get m j
      have hpl2 := Lib.hid (show (pad m j).length = b * q0 by omega)
      clear hpl hj1 hfull hbl hnf HM
      generalize hpj : pad m j = PJ at *
      go_wp2_with fail
      clear hmod
      go_loopw [7, 8, 9, 10] (fun v i _ _ wr2 => ∃ t : Nat, t ≤ q0 ∧ i = .int .i64 (b * t : Nat) ∧ Hid (NOwn wr2 w.heap.size 56 .u64 v (1 :: (List.range t).map (wd b m))) ∧ Hid (NOwn wr2 w.heap.size 5 .u8 (.slice a' PJ.length c') PJ) ∧ Below w.heap.size w wr2) (fun _ i _ _ _ => b * q0 - (intOf i).toNat)
      case atStart => exact ⟨0, Nat.zero_le _, by simp, ⟨rfl, Or.inr ⟨wr.heap.size, 1, #[.int .u64 1], rfl, kB.size, blk_new _ _, Nat.le_refl _, by decide, rfl, rfl⟩⟩, HO.out.step ((Below.refl _ _).alloc (Nat.le_refl _) _), kB.alloc kB.size _⟩
      case round =>
        obtain ⟨t, ht, rfl, HV, HP, kC⟩ := hrel
        have hpl3 := hpl2.out
        by_cases hlt : t < q0
        · have hbt : b * t + b ≤ b * q0 := by rw [← Nat.mul_succ]; exact Nat.mul_le_mul_left b hlt
          have hlt' : ((b * t : Nat) : Int) < (PJ.length : Int) := by omega
          have hb2 : b * t ≤ 6003 := by omega
          have hPle : PJ.length ≤ 6003 := by omega
          have hnx2 : ∀ j, wdTo b m t (j + 1) = 256 * wdTo b m t j + bt m (b * t + j) := fun j => by rw [Nat.mul_comm b t]; rfl
          have hend : wdTo b m t b = wd b m t := rfl
          have HR := Lib.hid (show b * t + b = b * (t + 1) from (Nat.mul_succ b t).symm)
          have HT := Lib.hid (List.range_succ (n := t))
          generalize b * t = r at *
          clear hpl3
          go_wp2_with fail
          go_loopw [9, 10] (fun v p w2 => ∃ j : Nat, j ≤ b ∧ v = .int .u64 (wdTo b m t j) ∧ p = .int .i64 j ∧ w2 = wr) (fun _ p _ => b - (intOf p).toNat)
          case atStart => exact ⟨0, Nat.zero_le _, rfl, rfl, rfl⟩
          case round =>
            obtain ⟨j, hj, rfl, rfl, rfl⟩ := hrel
            by_cases hjb : j < b
            · have hs := wdTo_small hB hb3 hjb t
              have hn2 := hnx2 j
              have hpl4 := hpl2.out
              obtain ⟨bm, om, rfl, hcm⟩ := HP.out.read (j := r + j) (by omega)
              rw [hget] at hcm
              have hbl2 := bt_lt hB (r + j)
              have e3 : ((r : Int) + j) = ((r + j : Nat) : Int) := by push_cast; rfl
              generalize bt m (r + j) = cc at *
              generalize hv : wdTo b m t j = v at *
              generalize hv2 : wdTo b m t (j + 1) = v2 at *
              have hrj : r + j < PJ.length := by omega
              generalize r + j = rj at *
              clear hpl4
              go_wp2_with fail
              go_roundw
              case rel => exact ⟨j + 1, by omega, congrArg _ (by omega), congrArg _ (by omega), by first | trivial | rfl⟩
              case measure => simp [intOf]; omega
            · obtain rfl : j = b := by omega
              rw [hend]
              have hvl : (1 :: (List.range t).map (wd j m)).length = t + 1 := by simp
              have hap : (1 :: (List.range t).map (wd j m)) ++ [wd j m t] = 1 :: (List.range (t + 1)).map (wd j m) := by rw [HT.out, List.map_append, List.cons_append]; rfl
              have hn3 : (1 :: (List.range t).map (wd j m)).length ≤ 10000 := by omega
              clear hvl hnx2 hget hend
              generalize (1 :: (List.range t).map (wd j m)) = VS at *
              generalize wd j m t = vv at *
              go_wp2_with (at_builtin; refine wpList_append_own _ rfl (.tmp 49) (.tmp 51) 115 rfl (w.heap.size) 56 j0 (.int .u64 0) 1 8 Tryz.underlying115 hj' hy0 hy1 hy2 rfl (by decide) _ _ _ rfl (World.ownsRow.alloc HV.out _) ⟨wr.heap.size, 0, none⟩ 1 1 [.int .u64 vv] rfl rfl (one_cellsN _ _ _ _) (one_oneN _ _) (by unfold maxLen; omega) (by omega) (by have := kC.size; simp; omega) ?_; intro v3 w3 hO3 hg3 hnil3)
              have HO3 := Lib.hid (NOwn.more hO3)
              rw [hap] at HO3
              have HP3 : Hid (NOwn w3 w.heap.size 5 .u8 (.slice a' PJ.length c') PJ) := World.ownsRow.kept (World.ownsRow.alloc HP.out _) hg3 (own_diff (by decide) HP.out HV.out)
              have kB3 : Below w.heap.size w w3 := (kC.alloc kC.size _).grown hg3 (by have := kC.size; simp; omega) (own_ge' HV.out)
              go_roundw
              case rel => exact ⟨t + 1, by omega, by rw [← HR.out]; go_num, HO3, HP3, kB3⟩
              case measure => simp [intOf]; omega
        · obtain rfl : t = q0 := by omega
          have hge : (PJ.length : Int) = ((b * t : Nat) : Int) := by omega
          clear hpl3
          generalize b * t = r at *
          go_wp2_with fail
          go_ret
          exact ⟨_, rfl, by rw [HW.out]; exact HV.out, kC⟩
    · have hmod : ((pad m j).length : Int) % b ≠ 0 := by
        rw [hpl]
        have := hnf (m.length + 1 + j) (by omega) (by omega)
        exact_mod_cast this
      have hle : (pad m j).length ≤ 10000 := by omega
      have hpl2 := Lib.hid hpl
      clear hpl
      generalize hpj : pad m j = PJ at *
      go_wp2_with (at_builtin; refine wpList_append_own _ rfl (.tmp 23) (.tmp 24) 26 rfl (w.heap.size) 5 i0 (.int .u8 0) 1 1 Tryz.underlying26 hi hz0 hz1 hz2 rfl (by decide) _ _ _ rfl (World.ownsRow.alloc HO.out _) ⟨wr.heap.size, 0, none⟩ 1 1 [.int .u8 0] rfl rfl (one_cellsN _ _ _ _) (one_oneN _ _) (by unfold maxLen; omega) (by omega) (by have := kB.size; simp; omega) ?_; intro v3 w3 hO3 hg3 hnil3)
      have HO3 := Lib.hid (NOwn.more hO3)
      rw [HM.out] at HO3
      have kB3 : Below w.heap.size w w3 := (kB.alloc kB.size _).grown hg3 (by have := kB.size; simp; omega) (own_ge' HO.out)
      have hpl3 := hpl2.out
      go_roundw
      case rel => exact ⟨j + 1, by omega, HO3, kB3⟩
      case measure =>
        obtain ⟨a3, c3, e3, -⟩ := HO3.out.at_
        rw [e3, pad_len]
        show _ - (m.length + 1 + (j + 1)) < _ - PJ.length
        omega
end Go.Proofs.YtlhponankanlmaaGreatDoor

/-
  Fields, words, digests and tags: of the code, and of the reference.
-/
set_option linter.unusedSimpArgs false
set_option linter.unusedVariables false
namespace Go.Proofs.YtlhponankanlmaaGreatDoor
open Go.RowKit

def prim : Nat → Nat
  | 0 => 257
  | 1 => 65537
  | _ => 2147483647
theorem prim_bd (i : Nat) : 257 ≤ prim i ∧ prim i < 2147483648 := by
  unfold prim
  split <;> decide
/-- Which field a number names. -/
def fi (n : Int) : Option Nat := if 0 ≤ n ∧ n < 3 then some n.toNat else none
theorem fi_cases (n : Int) : ((n < 0 ∨ 3 ≤ n) ∧ fi n = none) ∨ ∃ i : Nat, i < 3 ∧ n = i ∧ fi n = some i := by
  unfold fi
  by_cases h : 0 ≤ n ∧ n < 3
  · right
    rw [if_pos h]
    exact ⟨n.toNat, by omega, by omega, rfl⟩
  · left
    rw [if_neg h]
    exact ⟨by omega, rfl⟩
def wordsR (n k : Int) : Int × Int := match fi n with
  | none => (0, 2)
  | some i => if k < 0 ∨ 1000 < k then (0, 3) else (k / (i + 1 : Nat) + 2, 0)
def digR (n : Int) (x : Nat) (m : List Nat) : Nat × Int := match fi n with
  | none => (0, 2)
  | some i => if 1000 < m.length then (0, 7) else if x < 1 ∨ prim i ≤ x then (0, 3) else (dig (prim i) (i + 1) x m, 0)
def tagR (n : Int) (x pad : Nat) (m : List Nat) : Nat × Int := match fi n with
  | none => (0, 2)
  | some i => if (digR n x m).2 ≠ 0 then (0, (digR n x m).2) else if prim i ≤ pad then (0, 3) else (((digR n x m).1 + pad) % prim i, 0)

theorem fieldOf_none (n : Int) (hn : n < 0 ∨ 3 ≤ n) (w : World) : Calls Tryz.prog 89 #[.int .i64 n] w fun e w' => e = .returned (.pointer none) ∧ Below w.heap.size w w' := by
  rcases hn with hn | hn
  all_goals
    go_enter Tryz.func89, Tryz.ntmps89
    go_wp2
    go_ret
    exact ⟨rfl, (by repeat' (first | exact Below.refl _ _ | assumption | apply bDrewN | apply bDrew | apply bAlloc | (refine bSet ?_ ?_ _) | (refine bStep ?_ (by assumption)) | omega | (simp <;> omega)))⟩
theorem fieldOf_some (i : Nat) (hi : i < 3) (w : World) : Calls Tryz.prog 89 #[.int .i64 i] w fun e w' => ∃ B off, e = .returned (.pointer (some ⟨B, off, none⟩)) ∧ w.heap.size ≤ B ∧ B < w'.heap.size ∧
    w'.cell? ⟨B, off, none⟩ = some (.int .u64 (prim i)) ∧ w'.cell? ⟨B, off + 1, none⟩ = some (.int .i64 (i + 1 : Nat)) ∧ Below w.heap.size w w' := by
  have hc : i = 0 ∨ i = 1 ∨ i = 2 := by omega
  rcases hc with rfl | rfl | rfl
  all_goals
    go_enter Tryz.func89, Tryz.ntmps89
    go_wp2
    go_ret
    refine ⟨_, _, rfl, Nat.le_refl _, by simp, ?_, ?_, (by repeat' (first | exact Below.refl _ _ | assumption | apply bDrewN | apply bDrew | apply bAlloc | (refine bSet ?_ ?_ _) | (refine bStep ?_ (by assumption)) | omega | (simp <;> omega)))⟩ <;> (first | (go_simp; done) | (go_simp; rfl) | trace_state)
theorem Prime_any (n : Int) (w : World) : Calls Tryz.prog 124 #[.int .i64 n] w fun e w' => e = .returned (.int .u64 (match fi n with | none => 0 | some i => prim i : Nat)) ∧ w = w' := by
  rcases fi_cases n with ⟨hn, hf⟩ | ⟨i, hi, rfl, hf⟩
  · rw [hf]
    have h0 : n ≠ 0 := by omega
    have h1 : n ≠ 1 := by omega
    have h2 : n ≠ 2 := by omega
    go_enter Tryz.func124, Tryz.ntmps124
    go_wp2
    go_ret
    exact ⟨rfl, rfl⟩
  · rw [hf]
    have hc : i = 0 ∨ i = 1 ∨ i = 2 := by omega
    rcases hc with rfl | rfl | rfl
    all_goals
      go_enter Tryz.func124, Tryz.ntmps124
      go_wp2
      go_ret
      exact ⟨rfl, rfl⟩
end Go.Proofs.YtlhponankanlmaaGreatDoor

/-
  The package-level variables of which something is known: the powers of 10.
-/
set_option linter.unusedSimpArgs false
set_option linter.unusedVariables false
namespace Go.Proofs.YtlhponankanlmaaGreatDoor
namespace Sx
/-- The variable's name: the third one of the row's list. -/
def powN : String := ((Rows.passportNilRow.laid[2]?).map (·.1)).getD ""
noncomputable def powG : Nat := (Tryz.prog.globalNamed powN).getD 0
theorem powG_is : Tryz.prog.globalNamed powN = some powG := by kernel_rfl
noncomputable def Gs : List Nat := [powG]
def GlobP (w : World) : Prop := Lib.TabIs Tryz.prog w powN .u64 Lib.pow10Tab
theorem GlobP.kept {w w' : World} (h : GlobP w) (k : ∀ g ∈ Gs, w'.heap[g]? = w.heap[g]?) : GlobP w' := by
  have h1 := k powG (by unfold Gs; exact List.mem_singleton.2 rfl)
  unfold GlobP Lib.TabIs World.var? at h ⊢
  rw [powG_is] at h ⊢
  simp only [Option.bind_some] at h ⊢
  rw [h1]; exact h
/-- They hold what the program's text lays; they lie in memory that may not be written. -/
def GlobW (M : Nat → Prop) (w : World) : Prop := GlobP w ∧ ∀ g ∈ Gs, ¬ M g ∧ g < w.heap.size
def Glob0 (w : World) : Prop := GlobW (fun k => w.heap.size ≤ k) w
theorem glob0_of {w : World} (h : GlobP w) : Glob0 w := ⟨h, fun g hg => by
  obtain rfl : g = powG := by unfold Gs at hg; exact List.mem_singleton.1 hg
  have hlt : powG < w.heap.size := by
    unfold GlobP Lib.TabIs World.var? at h
    rw [powG_is] at h
    simp only [Option.bind_some] at h
    rcases Nat.lt_or_ge powG w.heap.size with h1 | h1
    · exact h1
    · rw [Array.getElem?_eq_none h1] at h; cases h
  exact ⟨by omega, hlt⟩⟩
end Sx
end Go.Proofs.YtlhponankanlmaaGreatDoor

/-
  Names; numbers in decimal; texts that are joined.
-/
set_option linter.unusedSimpArgs false
set_option linter.unusedVariables false
namespace Go.Proofs.YtlhponankanlmaaGreatDoor
open Go.RowKit

def okc (c : UInt8) : Bool := decide (97 ≤ c.toNat ∧ c.toNat ≤ 122 ∨ 48 ≤ c.toNat ∧ c.toNat ≤ 57)
/-- Whether a text is a name. -/
def nameB (s : ByteArray) : Bool := decide (1 ≤ s.size ∧ s.size ≤ 20) && s.data.toList.all okc
set_option maxHeartbeats 1000000 in
set_option maxRecDepth 20000 in
theorem isName_any (s : ByteArray) (w : World) (hs : s.size ≤ 9223372036854775807) : Calls Tryz.prog 66 #[.string s] w fun e w' => e = .returned (.bool (nameB s)) ∧ Below w.heap.size w w' := by
  by_cases h1 : 1 ≤ s.size ∧ s.size ≤ 20
  · obtain ⟨h1, h2⟩ := h1
    have h1' : 1 ≤ (s.size : Int) := by omega
    have h2' : (s.size : Int) ≤ 20 := by omega
    have hnb : nameB s = s.data.toList.all okc := by unfold nameB; rw [decide_eq_true ⟨h1, h2⟩, Bool.true_and]
    obtain ⟨R, hR⟩ : ∃ R, s.data.toList.all okc = R := ⟨_, rfl⟩
    rw [hnb, hR]
    have HR := Lib.hid hR
    clear hR
    have hconv := run_bytes_of_string (P := Tryz.prog) w 9 26 5 s Tryz.underlying9 Tryz.underlying26 Tryz.underlying5
    generalize hcap : grownCap w s.size 0 5 = cap at *
    have hcell : Hid (∀ j (hj : j < s.data.size), (w.alloc (.cells (bytesRow s cap) 5 ((bytesRow s cap).size, (bytesRow s cap).size + 1))).cell? ⟨w.heap.size, j, none⟩ = some (.int .u8 (s.data[j].toNat : Int))) := fun j hj => by
      rw [World.cell?_alloc_mark, bytesRow_at _ _ _ hj]
    generalize bytesRow s cap = C at *
    have hsz : s.size = s.data.size := rfl
    have hlen : s.data.toList.length = s.size := by rw [hsz]; exact Array.length_toList
    have HSZ := Lib.hid hsz
    have HLEN := Lib.hid hlen
    clear hnb hcap hsz hlen
    go_enter Tryz.func66, Tryz.ntmps66
    go_wp2
    go_loopw [4, 16] (fun _ i wr => ∃ k : Nat, k ≤ s.size ∧ i = .int .i64 k ∧ Hid ((s.data.toList.take k).all okc = true) ∧ wr = (w.alloc (.cells C 5 (C.size, C.size + 1))).drew) (fun _ i _ => s.size - (intOf i).toNat)
    case atStart => exact ⟨0, Nat.zero_le _, rfl, by simp [Hid], rfl⟩
    case round =>
      obtain ⟨k, hk, rfl, HQ, rfl⟩ := hrel
      by_cases hlt : k < s.size
      · have hc := hcell.out k hlt
        have hlt2 : k < s.data.toList.length := by rw [HLEN.out]; exact hlt
        have hget : s.data.toList[k] = s.data[k] := Array.getElem_toList _
        have HS := Lib.hid (show okc s.data[k] = true → (s.data.toList.take (k + 1)).all okc = true from fun h => by
          rw [List.take_succ_eq_append_getElem hlt2, List.all_append, HQ.out, hget]
          simp [h])
        have HN := Lib.hid (show okc s.data[k] = false → s.data.toList.all okc = false from fun h => by
          rw [List.all_eq_false]
          exact ⟨s.data[k], by rw [← hget]; exact List.getElem_mem _, by simp [h]⟩)
        have hb : s.data[k].toNat < 256 := s.data[k].toNat_lt
        have hoc : okc s.data[k] = decide (97 ≤ s.data[k].toNat ∧ s.data[k].toNat ≤ 122 ∨ 48 ≤ s.data[k].toNat ∧ s.data[k].toNat ≤ 57) := rfl
        rw [hoc] at HS HN
        generalize s.data[k].toNat = c at *
        clear hoc hget HQ
        by_cases hok : 97 ≤ c ∧ c ≤ 122 ∨ 48 ≤ c ∧ c ≤ 57
        · have hnext := HS.out (decide_eq_true hok)
          have hok' : (97 ≤ (c : Int) ∧ (c : Int) ≤ 122) ∨ ((c : Int) < 97 ∧ 48 ≤ (c : Int) ∧ (c : Int) ≤ 57) := by omega
          have HX := Lib.hid hnext
          clear hok HS HN hnext
          rcases hok' with ⟨q1, q2⟩ | ⟨q0, q1, q2⟩
          all_goals
            go_wp2_with fail
            go_roundw
            case rel => exact ⟨k + 1, by omega, by go_num, HX, by first | trivial | rfl⟩
            case measure => simp [intOf]; omega
        · have hn := HN.out (decide_eq_false hok)
          have HN2 := Lib.hid (HR.out.symm.trans hn)
          have hok' : (97 ≤ (c : Int) ∧ 122 < (c : Int) ∧ 48 ≤ (c : Int) ∧ 57 < (c : Int)) ∨ ((c : Int) < 97 ∧ 48 ≤ (c : Int) ∧ 57 < (c : Int)) ∨ ((c : Int) < 97 ∧ (c : Int) < 48) := by omega
          clear hok HS HN hn
          rcases hok' with ⟨q1, q2, q3, q4⟩ | ⟨q1, q2, q3⟩ | ⟨q1, q2⟩
          all_goals
            go_wp2_with fail
            all_goals first
              | (go_ret; exact ⟨by rw [HN2.out]; rfl, (by repeat' (first | exact Below.refl _ _ | assumption | apply bDrewN | apply bDrew | apply bAlloc | (refine bSet ?_ ?_ _) | (refine bStep ?_ (by assumption)) | omega | (simp <;> omega)))⟩)
              | (exfalso; omega)
              | (exfalso; simp_all; omega)
      · obtain rfl : k = s.size := by omega
        have hall : s.data.toList.all okc = true := by
          have := HQ.out
          rwa [← HLEN.out, List.take_length] at this
        have HAL := Lib.hid (HR.out.symm.trans hall)
        clear hcell hall
        go_wp2_with fail
        go_ret
        exact ⟨by rw [HAL.out]; rfl, (by repeat' (first | exact Below.refl _ _ | assumption | apply bDrewN | apply bDrew | apply bAlloc | (refine bSet ?_ ?_ _) | (refine bStep ?_ (by assumption)) | omega | (simp <;> omega)))⟩
  · have hnb : nameB s = false := by unfold nameB; rw [decide_eq_false h1, Bool.false_and]
    rw [hnb]
    have h2 : (s.size : Int) < 1 ∨ (1 ≤ (s.size : Int) ∧ 20 < (s.size : Int)) := by omega
    rcases h2 with h2 | ⟨h2, h3⟩
    all_goals
      go_enter Tryz.func66, Tryz.ntmps66
      go_wp2
      go_ret
      exact ⟨rfl, (by repeat' (first | exact Below.refl _ _ | assumption | apply bDrewN | apply bDrew | apply bAlloc | (refine bSet ?_ ?_ _) | (refine bStep ?_ (by assumption)) | omega | (simp <;> omega)))⟩
end Go.Proofs.YtlhponankanlmaaGreatDoor

/-
  Contracts of Go's library, laid for this program.
-/
set_option linter.unusedSimpArgs false
set_option linter.unusedVariables false
namespace Go.Proofs.YtlhponankanlmaaGreatDoor
open Go.Shelf
def lays156_ren : Go.Shelf.Ren := ⟨fun | 156 => 45 | 165 => 96 | 166 => 97 | 169 => 98 | 240 => 138 | 241 => 139 | 276 => 166 | 277 => 167 | n => n, fun | 31 => 49 | 9 => 9 | 3 => 3 | 4 => 4 | 0 => 0 | 20 => 20 | 72 => 172 | 76 => 165 | 70 => 170 | 37 => 26 | 75 => 104 | 127 => 216 | 164 => 235 | 5 => 5 | 80 => 174 | n => n, fun | n => n⟩
theorem lays156 : Go.Proofs.Lays.n156 Tryz.prog lays156_ren := {
  mixed := by kernel_rfl
  f156 := Tryz.func45.trans (congrArg some (by kernel_rfl))
  f165 := Tryz.func96.trans (congrArg some (by kernel_rfl))
  f166 := Tryz.func97.trans (congrArg some (by kernel_rfl))
  f169 := Tryz.func98.trans (congrArg some (by kernel_rfl))
  f240 := Tryz.func138.trans (congrArg some (by kernel_rfl))
  f241 := Tryz.func139.trans (congrArg some (by kernel_rfl))
  f276 := Tryz.func166.trans (congrArg some (by kernel_rfl))
  f277 := Tryz.func167.trans (congrArg some (by kernel_rfl))
  t0 := Tryz.underlying0
  a0 := Tryz.isAgg0
  z0 := Tryz.sizeOf0
  v0 := Tryz.zeroValue0
  t3 := Tryz.underlying3
  a3 := Tryz.isAgg3
  z3 := Tryz.sizeOf3
  v3 := Tryz.zeroValue3
  t4 := Tryz.underlying4
  a4 := Tryz.isAgg4
  z4 := Tryz.sizeOf4
  v4 := Tryz.zeroValue4
  t9 := Tryz.underlying9
  a9 := Tryz.isAgg9
  z9 := Tryz.sizeOf9
  v9 := Tryz.zeroValue9
  t20 := Tryz.underlying20
  a20 := Tryz.isAgg20
  z20 := Tryz.sizeOf20
  v20 := Tryz.zeroValue20
  t31 := Tryz.underlying49
  a31 := Tryz.isAgg49
  z31 := Tryz.sizeOf49
  v31 := Tryz.zeroValue49
  t37 := Tryz.underlying26
  a37 := Tryz.isAgg26
  z37 := Tryz.sizeOf26
  v37 := Tryz.zeroValue26
  t70 := Tryz.underlying170
  a70 := Tryz.isAgg170
  z70 := Tryz.sizeOf170
  v70 := Tryz.zeroValue170
  t72 := Tryz.underlying172
  a72 := Tryz.isAgg172
  z72 := Tryz.sizeOf172
  v72 := Tryz.zeroValue172
  t75 := Tryz.underlying104
  a75 := Tryz.isAgg104
  z75 := Tryz.sizeOf104
  v75 := Tryz.zeroValue104
  t76 := Tryz.underlying165
  a76 := Tryz.isAgg165
  z76 := Tryz.sizeOf165
  v76 := Tryz.zeroValue165
  t127 := Tryz.underlying216
  a127 := Tryz.isAgg216
  z127 := Tryz.sizeOf216
  v127 := Tryz.zeroValue216
  t164 := Tryz.underlying235
  a164 := Tryz.isAgg235
  z164 := Tryz.sizeOf235
  v164 := Tryz.zeroValue235 }
theorem Builder_Extra_156 : Builder.Extra Tryz.prog lays156_ren := {
  sizeBuilder := by kernel_rfl
  liesBuilder := by kernel_rfl
  t5 := Tryz.underlying5
  a5 := Tryz.isAgg5
  z5 := Tryz.sizeOf5
  v5 := Tryz.zeroValue5
  infoByte := by kernel_rfl
  cellsByte := by kernel_rfl
  sizeByte := by kernel_rfl
  neB5 := by decide }
def laysM173_ren : Go.Shelf.Ren := ⟨fun | 173 => 44 | 246 => 95 | 283 => 134 | 284 => 135 | 285 => 136 | 286 => 137 | 129 => 162 | 317 => 161 | 318 => 163 | 319 => 164 | 320 => 165 | 337 => 177 | 338 => 178 | n => n, fun | 2 => 2 | 3 => 3 | 9 => 9 | 4 => 4 | 171 => 211 | 0 => 0 | 53 => 56 | 37 => 26 | 5 => 5 | 173 => 214 | 212 => 231 | 51 => 232 | 20 => 20 | 213 => 233 | 46 => 197 | 232 => 251 | 233 => 252 | n => n, fun | 17 => 1 | 18 => 5 | 19 => 6 | n => n⟩
theorem laysM173 : Go.Proofs.LaysM.n173 Tryz.prog laysM173_ren := {
  mixed := by kernel_rfl
  f129 := Tryz.func162.trans (congrArg some (by kernel_rfl))
  f173 := Tryz.func44.trans (congrArg some (by kernel_rfl))
  f246 := Tryz.func95.trans (congrArg some (by kernel_rfl))
  f283 := Tryz.func134.trans (congrArg some (by kernel_rfl))
  f284 := Tryz.func135.trans (congrArg some (by kernel_rfl))
  f285 := Tryz.func136.trans (congrArg some (by kernel_rfl))
  f286 := Tryz.func137.trans (congrArg some (by kernel_rfl))
  f317 := Tryz.func161.trans (congrArg some (by kernel_rfl))
  f318 := Tryz.func163.trans (congrArg some (by kernel_rfl))
  f319 := Tryz.func164.trans (congrArg some (by kernel_rfl))
  f320 := Tryz.func165.trans (congrArg some (by kernel_rfl))
  f337 := Tryz.func177.trans (congrArg some (by kernel_rfl))
  f338 := Tryz.func178.trans (congrArg some (by kernel_rfl))
  t0 := Tryz.underlying0
  a0 := Tryz.isAgg0
  z0 := Tryz.sizeOf0
  v0 := Tryz.zeroValue0
  t2 := Tryz.underlying2
  a2 := Tryz.isAgg2
  z2 := Tryz.sizeOf2
  v2 := Tryz.zeroValue2
  t3 := Tryz.underlying3
  a3 := Tryz.isAgg3
  z3 := Tryz.sizeOf3
  v3 := Tryz.zeroValue3
  t4 := Tryz.underlying4
  a4 := Tryz.isAgg4
  z4 := Tryz.sizeOf4
  v4 := Tryz.zeroValue4
  t5 := Tryz.underlying5
  a5 := Tryz.isAgg5
  z5 := Tryz.sizeOf5
  v5 := Tryz.zeroValue5
  t9 := Tryz.underlying9
  a9 := Tryz.isAgg9
  z9 := Tryz.sizeOf9
  v9 := Tryz.zeroValue9
  t20 := Tryz.underlying20
  a20 := Tryz.isAgg20
  z20 := Tryz.sizeOf20
  v20 := Tryz.zeroValue20
  t37 := Tryz.underlying26
  a37 := Tryz.isAgg26
  z37 := Tryz.sizeOf26
  v37 := Tryz.zeroValue26
  t46 := Tryz.underlying197
  a46 := Tryz.isAgg197
  z46 := Tryz.sizeOf197
  v46 := Tryz.zeroValue197
  t51 := Tryz.underlying232
  a51 := Tryz.isAgg232
  z51 := Tryz.sizeOf232
  v51 := Tryz.zeroValue232
  t53 := Tryz.underlying56
  a53 := Tryz.isAgg56
  z53 := Tryz.sizeOf56
  v53 := Tryz.zeroValue56
  t171 := Tryz.underlying211
  a171 := Tryz.isAgg211
  z171 := Tryz.sizeOf211
  v171 := Tryz.zeroValue211
  t173 := Tryz.underlying214
  a173 := Tryz.isAgg214
  z173 := Tryz.sizeOf214
  v173 := Tryz.zeroValue214
  t212 := Tryz.underlying231
  a212 := Tryz.isAgg231
  z212 := Tryz.sizeOf231
  v212 := Tryz.zeroValue231
  t213 := Tryz.underlying233
  a213 := Tryz.isAgg233
  z213 := Tryz.sizeOf233
  t232 := Tryz.underlying251
  a232 := Tryz.isAgg251
  z232 := Tryz.sizeOf251
  v232 := Tryz.zeroValue251
  t233 := Tryz.underlying252
  a233 := Tryz.isAgg252
  z233 := Tryz.sizeOf252
  v233 := Tryz.zeroValue252
  g17 := by kernel_rfl
  g18 := by kernel_rfl
  g19 := by kernel_rfl
  i0 := by kernel_rfl
  i2 := by kernel_rfl
  i3 := by kernel_rfl
  i4 := by kernel_rfl
  i5 := by kernel_rfl
  i9 := by kernel_rfl
  i20 := by kernel_rfl
  i37 := by kernel_rfl
  i46 := by kernel_rfl
  i51 := by kernel_rfl
  i53 := by kernel_rfl
  i171 := by kernel_rfl
  i173 := by kernel_rfl
  i212 := by kernel_rfl
  i232 := by kernel_rfl
  i233 := by kernel_rfl
  m17 := by kernel_rfl
  m18 := by kernel_rfl
  m19 := by kernel_rfl }
end Go.Proofs.YtlhponankanlmaaGreatDoor

/-
  The order in which a region carries out its operations does not matter: if each operation is told by what it looks at and what it writes, and whatever meets at one place is in a fixed order, then every order leaves what the order of the text leaves.
-/
set_option linter.unusedSimpArgs false
set_option linter.unusedVariables false
namespace Go.Proofs.YtlhponankanlmaaGreatDoor
namespace Sx
open Go.RowKit

section
variable {P : Program} {ops : Array Oper} {Q : Exit → Act → World → Prop}

/-- Every operation waits for earlier ones alone. -/
def early (ops : Array Oper) : Bool := (List.range ops.size).all fun i => ((ops[i]?).map (·.after.all fun e => !Region.binds .any e || decide (e.on < i))).getD true

theorem all_listed {l : Array Bool} (hsz : l.size = ops.size) (he : early ops = true) (h : Region.ready .any ops l = []) : ∀ i, i < ops.size → l.getD i true = true := by
  intro i
  induction i using Nat.strongRecOn with
  | _ i ih =>
    intro hi
    cases hl : l.getD i true with
    | true => rfl
    | false =>
      exfalso
      have hr : i ∈ Region.ready .any ops l := by
        unfold Region.ready
        rw [List.mem_filter]
        refine ⟨List.mem_range.2 hi, ?_⟩
        have ho : ops[i]? = some ops[i] := Array.getElem?_eq_getElem hi
        rw [hl, ho]
        simp only [Bool.not_false, Bool.true_and, Option.map_some, Option.getD_some]
        rw [Array.all_eq_true']
        intro e hem
        have h1 := List.all_eq_true.1 he i (List.mem_range.2 hi)
        rw [ho] at h1
        simp only [Option.map_some, Option.getD_some] at h1
        rw [Array.all_eq_true'] at h1
        have h2 := h1 e hem
        cases hb : Region.binds .any e with
        | false => simp
        | true =>
          rw [hb] at h2
          simp at h2
          have h3 := ih e.on h2 (by omega)
          have : l.getD e.on false = true := by
            rw [Array.getD_eq_getD_getElem?] at h3 ⊢
            cases hx : l[e.on]? with
            | some x => rw [hx] at h3; simpa using h3
            | none =>
              exfalso
              rw [Array.getElem?_eq_none_iff] at hx
              omega
          simp [this]
      rw [h] at hr
      exact absurd hr (by simp)

/-- How many are still to come. -/
def left (l : Array Bool) : Nat := l.toList.count false
theorem left_set {l : Array Bool} {i : Nat} (hi : i < l.size) (h : l.getD i true = false) : left (l.setIfInBounds i true) + 1 = left l := by
  obtain ⟨l⟩ := l
  simp only [left, List.setIfInBounds_toArray]
  have hi' : i < l.length := by simpa using hi
  have h' : l[i] = false := by
    rw [Array.getD_eq_getD_getElem?] at h
    simpa [hi'] using h
  rw [List.count_set hi']
  have hc : 0 < List.count false l := List.count_pos_iff.2 (h' ▸ List.getElem_mem hi')
  simp [h']
  omega
theorem ready_iff {md : Region.Mode} {l : Array Bool} {i : Nat} (h : i ∈ Region.ready md ops l) :
    i < ops.size ∧ l.getD i true = false ∧ ∀ o, ops[i]? = some o → (o.after.all fun e => !Region.binds md e || l.getD e.on false) = true := by
  unfold Region.ready at h
  rw [List.mem_filter] at h
  obtain ⟨h1, h2⟩ := h
  rw [Bool.and_eq_true] at h2
  refine ⟨List.mem_range.1 h1, by simpa using h2.1, fun o ho => ?_⟩
  have h3 := h2.2
  rw [ho] at h3
  simpa using h3

theorem any_inv (he : early ops = true) (I : Array Bool → Act → World → Prop) (hsz : ∀ l a w, I l a w → l.size = ops.size)
    (step : ∀ i o, ops[i]? = some o → ∀ l a w, I l a w → l.getD i true = false → (o.after.all fun e => !Region.binds .any e || l.getD e.on false) = true → wpOp P ops Q i (I (l.setIfInBounds i true)) a w)
    (done : ∀ l a w, I l a w → (∀ i, i < ops.size → l.getD i true = true) → Q .normal a w) :
    ∀ fuel l a w, I l a w → left l ≤ fuel → wpAny P .any ops Q fuel l a w := by
  intro fuel
  induction fuel with
  | zero =>
    intro l a w hI hf
    have hr : Region.ready .any ops l = [] := by
      rw [List.eq_nil_iff_forall_not_mem]
      intro i hi
      obtain ⟨h1, h2, _⟩ := ready_iff hi
      have := left_set (by rw [hsz l a w hI]; exact h1) h2
      omega
    exact ⟨hr, done l a w hI (all_listed (hsz l a w hI) he hr)⟩
  | succ n ih =>
    intro l a w hI hf
    refine ⟨fun hr => done l a w hI (all_listed (hsz l a w hI) he hr), fun i hi => ?_⟩
    obtain ⟨h1, h2, h3⟩ := ready_iff hi
    have ho : ops[i]? = some ops[i] := Array.getElem?_eq_getElem h1
    have hl := left_set (by rw [hsz l a w hI]; exact h1) h2
    exact wpOp_mono (fun a' w' h' => ih _ a' w' h' (by omega)) (step i _ ho l a w hI h2 (h3 _ ho))

theorem left_new (n : Nat) : left (Array.replicate n false) = n := by simp [left]

theorem region_inv {id : Nat} {a : Act} {w : World} (hm : P.follows .mixedOrders = true) (he : early ops = true) (I : Array Bool → Act → World → Prop) (h0 : I (Array.replicate ops.size false) a w.drew) (hsz : ∀ l a w, I l a w → l.size = ops.size)
    (step : ∀ i o, ops[i]? = some o → ∀ l a w, I l a w → l.getD i true = false → (o.after.all fun e => !Region.binds .any e || l.getD e.on false) = true → wpOp P ops Q i (I (l.setIfInBounds i true)) a w)
    (done : ∀ l a w, I l a w → (∀ i, i < ops.size → l.getD i true = true) → Q .normal a w) : (Code.region id ops true).wp P Q a w :=
  wp_region_any hm (any_inv he I hsz step done ops.size _ _ _ h0 (by rw [left_new]; exact Nat.le_refl _))

def waits (ops : Array Oper) (i : Nat) : List Nat := ((ops[i]?).map fun o => (o.after.toList.filter (Region.binds .any)).map (·.on)).getD []
def Shut (ops : Array Oper) (l : Array Bool) : Prop := ∀ i, l.getD i false = true → ∀ j ∈ waits ops i, l.getD j false = true
theorem waits_ok {l : Array Bool} {i : Nat} {o : Oper} (ho : ops[i]? = some o) (h : (o.after.all fun e => !Region.binds .any e || l.getD e.on false) = true) : ∀ j ∈ waits ops i, l.getD j false = true := by
  intro j hj
  unfold waits at hj
  rw [ho] at hj
  simp only [Option.map_some, Option.getD_some] at hj
  obtain ⟨e, he, rfl⟩ := List.mem_map.1 hj
  obtain ⟨he1, he2⟩ := List.mem_filter.1 he
  rw [Array.all_eq_true'] at h
  have := h e (by simpa using he1)
  rw [he2] at this
  simpa using this
theorem getD_tf {l : Array Bool} {i : Nat} (h : l.getD i true = false) : l.getD i false = false := by
  rw [Array.getD_eq_getD_getElem?] at h ⊢
  cases hx : l[i]? with
  | none => rw [hx] at h; simp at h
  | some x => rw [hx] at h; simpa using h
theorem getD_tt {l : Array Bool} {i : Nat} (hi : i < l.size) (h : l.getD i true = true) : l.getD i false = true := by
  rw [Array.getD_eq_getD_getElem?] at h ⊢
  rw [Array.getElem?_eq_getElem hi] at h ⊢
  simpa using h
theorem getD_set1 {l : Array Bool} {i j : Nat} {b : Bool} (hi : i < l.size) : (l.setIfInBounds i true).getD j b = if i = j then true else l.getD j b := by
  rw [Array.getD_eq_getD_getElem?, Array.getD_eq_getD_getElem?, Array.getElem?_setIfInBounds]
  split
  · simp [*]
  · rfl
theorem Shut.set {l : Array Bool} {i : Nat} (h : Shut ops l) (hi : i < l.size) (hw : ∀ j ∈ waits ops i, l.getD j false = true) : Shut ops (l.setIfInBounds i true) := by
  intro k hk j hj
  rw [getD_set1 hi] at hk ⊢
  split
  · rfl
  · by_cases e : i = k
    · subst e; exact hw j hj
    · rw [if_neg e] at hk
      exact h k hk j hj

/-- Which operations are ahead of which, as numbers in binary. -/
def maskOf (ws : List Nat) (m : List Nat) : Nat := ws.foldl (fun s j => s ||| (2 ^ j ||| m.getD j 0)) 0
def masks (ops : Array Oper) : Nat → List Nat
  | 0 => []
  | n + 1 => masks ops n ++ [maskOf (waits ops n) (masks ops n)]
theorem maskOf_bit {m : List Nat} {k : Nat} : ∀ (ws : List Nat) (s : Nat), (ws.foldl (fun s j => s ||| (2 ^ j ||| m.getD j 0)) s).testBit k = true → s.testBit k = true ∨ ∃ j ∈ ws, j = k ∨ (m.getD j 0).testBit k = true := by
  intro ws
  induction ws with
  | nil => intro s h; exact Or.inl h
  | cons x ws ih =>
    intro s h
    rcases ih _ h with h | ⟨j, hj, h⟩
    · rw [Nat.testBit_or, Nat.testBit_or, Bool.or_eq_true, Bool.or_eq_true] at h
      rcases h with h | h | h
      · exact Or.inl h
      · rw [Nat.testBit_two_pow] at h
        exact Or.inr ⟨x, List.mem_cons_self, Or.inl (by simpa using h)⟩
      · exact Or.inr ⟨x, List.mem_cons_self, Or.inr h⟩
    · exact Or.inr ⟨j, List.mem_cons_of_mem _ hj, h⟩
theorem masks_length (n : Nat) : (masks ops n).length = n := by
  induction n with
  | zero => rfl
  | succ n ih => simp [masks, ih]
theorem Shut.mask {l : Array Bool} (h : Shut ops l) : ∀ n i k, ((masks ops n).getD i 0).testBit k = true → l.getD i false = true → l.getD k false = true := by
  intro n
  induction n with
  | zero => intro i k hk; simp [masks] at hk
  | succ n ih =>
    intro i k hk hi
    have hlen := masks_length (ops := ops) n
    rcases Nat.lt_trichotomy i n with c | c | c
    · refine ih i k ?_ hi
      simpa [masks, List.getD_eq_getElem?_getD, List.getElem?_append_left (show i < (masks ops n).length by omega)] using hk
    · subst c
      have e : (masks ops (i + 1)).getD i 0 = maskOf (waits ops i) (masks ops i) := by
        rw [masks, List.getD_eq_getElem?_getD, List.getElem?_append_right (by omega)]
        simp [hlen]
      rw [e] at hk
      rcases maskOf_bit _ _ hk with h0 | ⟨j, hj, h0⟩
      · simp at h0
      · have h1 := h i hi j hj
        rcases h0 with h0 | h0
        · subst h0; exact h1
        · exact ih j k h0 h1
    · exfalso
      rw [List.getD_eq_getElem?_getD, List.getElem?_eq_none (by rw [masks_length]; omega)] at hk
      simp at hk
end

/-! Places, and what is written there. `V`: what a place holds. -/
section
variable {Loc V : Type}

/-- An operation's part: which places it looks at, and what it finds; what it writes. -/
structure Part (Loc V : Type) where
  rd : List (Loc × Option V)
  wr : Loc → Option (Option V)

def Part.upd (p : Part Loc V) (s : Loc → Option V) : Loc → Option V := fun x => (p.wr x).getD (s x)
def stAt (evs : Nat → Part Loc V) (s0 : Loc → Option V) (l : Nat → Bool) : Nat → Loc → Option V
  | 0 => s0
  | n + 1 => if l n = true then (evs n).upd (stAt evs s0 l n) else stAt evs s0 l n

theorem stAt_congr {evs : Nat → Part Loc V} {s0 : Loc → Option V} {l l' : Nat → Bool} {x : Loc} : ∀ n, (∀ j, j < n → ((evs j).wr x).isSome = true → l j = l' j) → stAt evs s0 l n x = stAt evs s0 l' n x := by
  intro n
  induction n with
  | zero => intro _; rfl
  | succ n ih =>
    intro h
    have ih' := ih fun j hj => h j (by omega)
    cases hw : (evs n).wr x with
    | none =>
      have e : ∀ l, stAt evs s0 l (n + 1) x = stAt evs s0 l n x := by
        intro l; simp only [stAt]; split
        · simp [Part.upd, hw]
        · rfl
      rw [e, e, ih']
    | some v =>
      have hn := h n (by omega) (by rw [hw]; rfl)
      simp only [stAt]
      rw [hn]
      split
      · simp [Part.upd, hw]
      · exact ih'
theorem stAt_last {evs : Nat → Part Loc V} {s0 : Loc → Option V} {l : Nat → Bool} {x : Loc} {i : Nat} {v : Option V} (hi : l i = true) (hw : (evs i).wr x = some v) :
    ∀ n, i < n → (∀ j, i < j → j < n → ((evs j).wr x).isSome = true → l j = false) → stAt evs s0 l n x = v := by
  intro n
  induction n with
  | zero => intro h; omega
  | succ n ih =>
    intro hn h
    by_cases e : i = n
    · subst e
      simp [stAt, hi, Part.upd, hw]
    · have ih' := ih (by omega) fun j h1 h2 => h j h1 (by omega)
      simp only [stAt]
      split
      · rename_i hl
        cases hx : (evs n).wr x with
        | none => simp [Part.upd, hx, ih']
        | some y => exact absurd hl (by rw [h n (by omega) (by omega) (by rw [hx]; rfl)]; decide)
      · exact ih'
theorem stAt_all (evs : Nat → Part Loc V) (s0 : Loc → Option V) {l l' : Nat → Bool} (n : Nat) (h : ∀ j, j < n → l j = l' j) : stAt evs s0 l n = stAt evs s0 l' n :=
  funext fun _ => stAt_congr n fun j hj _ => h j hj
/-- Behind position i nothing is done: what is there is what the first i left. -/
theorem stAt_cut (evs : Nat → Part Loc V) (s0 : Loc → Option V) (i : Nat) : ∀ n, i ≤ n → stAt evs s0 (fun j => decide (j < i)) n = stAt evs s0 (fun _ => true) i := by
  intro n
  induction n with
  | zero => intro h; obtain rfl : i = 0 := by omega
            rfl
  | succ n ih =>
    intro h
    by_cases e : i = n + 1
    · subst e
      exact stAt_all _ _ _ fun j hj => by simp [hj]
    · simp only [stAt]
      rw [if_neg (by simp; omega)]
      exact ih (by omega)

variable {P : Program} {ops : Array Oper} {Q : Exit → Act → World → Prop}

/-- THE RULE. `R s a w`: the frame and the world are as s says. -/
theorem region_parts {id : Nat} {a : Act} {w : World} (hm : P.follows .mixedOrders = true) (he : early ops = true) (R : (Loc → Option V) → Act → World → Prop) (evs : Nat → Part Loc V) (s0 : Loc → Option V)
    (hok : ∀ i, i < ops.size → ∀ s a w (K : Act → World → Prop), R s a w → (∀ r ∈ (evs i).rd, s r.1 = r.2) → (∀ a' w', R ((evs i).upd s) a' w' → K a' w') → wpOp P ops Q i K a w)
    (htext : ∀ i, i < ops.size → ∀ r ∈ (evs i).rd, stAt evs s0 (fun _ => true) i r.1 = r.2)
    (hconf : ∀ i j, i < j → j < ops.size → ∀ x, ((((evs i).wr x).isSome = true ∧ (((evs j).wr x).isSome = true ∨ x ∈ (evs j).rd.map (·.1))) ∨ (x ∈ (evs i).rd.map (·.1) ∧ ((evs j).wr x).isSome = true)) → ((masks ops ops.size).getD j 0).testBit i = true)
    (h0 : R s0 a w.drew) (hQ : ∀ a' w', R (stAt evs s0 (fun _ => true) ops.size) a' w' → Q .normal a' w') : (Code.region id ops true).wp P Q a w := by
  refine region_inv hm he (fun l a w => l.size = ops.size ∧ Shut ops l ∧ R (stAt evs s0 (fun j => l.getD j false) ops.size) a w) ?_ (fun l a w h => h.1) ?_ ?_
  · have e : ∀ k, (Array.replicate ops.size false).getD k false = false := by
      intro k
      rw [Array.getD_eq_getD_getElem?]
      by_cases h : k < ops.size <;> simp [h]
    refine ⟨by simp, (fun i hi => absurd hi (by rw [e]; decide)), ?_⟩
    have : stAt evs s0 (fun j => (Array.replicate ops.size false).getD j false) ops.size = s0 := by
      have h1 : ∀ n, stAt evs s0 (fun j => (Array.replicate ops.size false).getD j false) n = s0 := by
        intro n
        induction n with
        | zero => rfl
        | succ n ih => simp only [stAt]; rw [if_neg (by rw [e]; decide), ih]
      exact h1 _
    rw [this]
    exact h0
  · rintro i o ho l a w ⟨hs, hS, hR⟩ hl hd
    have hi : i < ops.size := (Array.getElem?_eq_some_iff.1 ho).1
    have hil : i < l.size := by omega
    have hw := waits_ok ho hd
    have hS2 := hS.set hil hw
    have hlf := getD_tf hl
    have hset : ∀ j, (l.setIfInBounds i true).getD j false = if i = j then true else l.getD j false := fun j => getD_set1 hil
    -- who is ahead of i is done; who is behind i is not
    have before : ∀ j, j < i → ((masks ops ops.size).getD i 0).testBit j = true → l.getD j false = true := by
      intro j hj hb
      have := hS2.mask ops.size i j hb (by rw [hset, if_pos rfl])
      rwa [hset, if_neg (by omega)] at this
    have behind : ∀ j, i < j → ((masks ops ops.size).getD j 0).testBit i = true → l.getD j false = false := by
      intro j hj hb
      cases hx : l.getD j false with
      | false => rfl
      | true => exact absurd (hS.mask ops.size j i hb hx) (by rw [hlf]; decide)
    refine hok i hi _ a w _ hR ?_ ?_
    · intro r hr
      have hmem : r.1 ∈ (evs i).rd.map (·.1) := List.mem_map.2 ⟨r, hr, rfl⟩
      rw [← htext i hi r hr, ← stAt_cut evs s0 i ops.size (by omega)]
      refine stAt_congr _ fun j hj hwj => ?_
      rcases Nat.lt_trichotomy j i with c | c | c
      · simp only [c, decide_true]
        exact before j c (hconf j i c hi r.1 (Or.inl ⟨hwj, Or.inr hmem⟩))
      · subst c; simp [hlf]
      · rw [behind j c (hconf i j c hj r.1 (Or.inr ⟨hmem, hwj⟩))]
        simp; omega
    · intro a' w' h
      refine ⟨by simpa using hs, hS2, ?_⟩
      have : stAt evs s0 (fun j => (l.setIfInBounds i true).getD j false) ops.size = (evs i).upd (stAt evs s0 (fun j => l.getD j false) ops.size) := by
        funext x
        cases hx : (evs i).wr x with
        | none =>
          have : (evs i).upd (stAt evs s0 (fun j => l.getD j false) ops.size) x = stAt evs s0 (fun j => l.getD j false) ops.size x := by simp [Part.upd, hx]
          rw [this]
          refine stAt_congr _ fun j hj hwj => ?_
          rw [hset, if_neg]
          intro e; subst e; rw [hx] at hwj; cases hwj
        | some v =>
          have : (evs i).upd (stAt evs s0 (fun j => l.getD j false) ops.size) x = v := by simp [Part.upd, hx]
          rw [this]
          refine stAt_last (l := fun j => (l.setIfInBounds i true).getD j false) (by show (l.setIfInBounds i true).getD i false = true; rw [hset, if_pos rfl]) hx _ hi fun j h1 h2 hwj => ?_
          rw [hset, if_neg (by omega)]
          exact behind j h1 (hconf i j h1 h2 x (Or.inl ⟨by rw [hx]; rfl, Or.inl hwj⟩))
      rw [this]
      exact h
  · rintro l a w ⟨hs, hS, hR⟩ hall
    refine hQ a w ?_
    rw [← stAt_all evs s0 (l := fun j => l.getD j false) ops.size fun j hj => getD_tt (by omega) (hall j hj)]
    exact hR

/-- In the order of the text. -/
theorem region_text {id : Nat} {a : Act} {w : World} (R : (Loc → Option V) → Act → World → Prop) (evs : Nat → Part Loc V) (s0 : Loc → Option V)
    (hok : ∀ i, i < ops.size → ∀ s a w (K : Act → World → Prop), R s a w → (∀ r ∈ (evs i).rd, s r.1 = r.2) → (∀ a' w', R ((evs i).upd s) a' w' → K a' w') → wpOp P ops Q i K a w)
    (htext : ∀ i, i < ops.size → ∀ r ∈ (evs i).rd, stAt evs s0 (fun _ => true) i r.1 = r.2)
    (h0 : R s0 a w) (hQ : ∀ a' w', R (stAt evs s0 (fun _ => true) ops.size) a' w' → Q .normal a' w') : (Code.region id ops false).wp P Q a w := by
  refine wp_region ?_
  have key : ∀ n k a w, k + n = ops.size → R (stAt evs s0 (fun _ => true) k) a w → wpOps P ops Q (List.range' k n) a w := by
    intro n
    induction n with
    | zero => intro k a w hk h; obtain rfl : k = ops.size := by omega
              exact hQ a w h
    | succ n ih =>
      intro k a w hk h
      rw [List.range'_succ, wpOps_cons]
      refine hok k (by omega) _ a w _ h (htext k (by omega)) fun a' w' h' => ih (k + 1) a' w' (by omega) ?_
      rw [show stAt evs s0 (fun _ => true) (k + 1) = (evs k).upd (stAt evs s0 (fun _ => true) k) from if_pos rfl]
      exact h'
  rw [List.range_eq_range']
  exact key _ _ _ _ (by omega) h0
end

end Sx
end Go.Proofs.YtlhponankanlmaaGreatDoor
