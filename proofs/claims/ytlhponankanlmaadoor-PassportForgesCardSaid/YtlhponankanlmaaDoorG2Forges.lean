/-
  The walk of the reference's List: the words of a message.
-/
import Derived.Test.YtlhponankanlmaaDoorG1Forges
import Derived.Laws.MakeOwn
set_option linter.unusedSimpArgs false
set_option linter.unusedVariables false
namespace Go.Proofs.YtlhponankanlmaaDoor
open Go.RowKit

/-- A slice of bytes, as a value. -/
def BytV (a : Option Addr) (m : List Nat) (W : World) : Prop := m ≠ [] → ∃ b off, a = some ⟨b, off, none⟩ ∧ b < W.heap.size ∧ ∀ k, k < m.length → W.cell? ⟨b, off + k, none⟩ = some (.int .u8 (m.getD k 0 : Nat))
theorem BytV.step {a : Option Addr} {m : List Nat} {W w2 : World} (h : BytV a m W) (hb : Below W.heap.size W w2) : BytV a m w2 := fun hn => by
  obtain ⟨b, off, rfl, h1, h2⟩ := h hn
  exact ⟨b, off, rfl, Nat.lt_of_lt_of_le h1 hb.size, fun k hk => cell_step (h2 k hk) hb⟩
theorem BytV.src {a : Option Addr} {m : List Nat} {W : World} (h : BytV a m W) : m.length ≠ 0 → ∃ b, a = some b ∧ ∀ j u, (flatN .u8 m)[j]? = some u → W.cell? (b.add j) = some u := fun hn => by
  obtain ⟨b, off, rfl, h1, h2⟩ := h (fun e => hn (by rw [e]; rfl))
  refine ⟨_, rfl, fun j u hu => ?_⟩
  have hj : j < m.length := by rw [← flatN_len .u8 m]; exact (List.getElem?_eq_some_iff.1 hu).1
  have e : (flatN .u8 m)[j]? = some (.int .u8 (m.getD j 0 : Nat)) := by simp [flatN, List.getD_eq_getElem?_getD, List.getElem?_eq_getElem hj]
  rw [e] at hu
  obtain rfl := Option.some.inj hu
  rw [show ((⟨b, off, none⟩ : Addr).add j) = ⟨b, off + j, none⟩ by unfold Addr.add; split <;> simp_all]
  exact h2 j hj

theorem NOwn.read {W : World} {B e : Nat} {k : IntKind} {a : Option Addr} {n c : Nat} {xs : List Nat} (h : NOwn W B e k (.slice a n c) xs) {j : Nat} (hj : j < xs.length) : ∃ b off, a = some ⟨b, off, none⟩ ∧ W.cell? ⟨b, off + j, none⟩ = some (.int k (xs.getD j 0 : Nat)) := by
  obtain ⟨a', c', h1, h2⟩ := h.at_
  cases h1
  exact h2 j hj
theorem NOwn.step {W w2 : World} {B e : Nat} {k : IntKind} {v : Value} {xs : List Nat} (h : NOwn W B e k v xs) (hb : Below W.heap.size W w2) : NOwn w2 B e k v xs := own_step' h hb
def lnV : Value → Nat
  | .slice _ n _ => n
  | _ => 0
set_option maxHeartbeats 4000000 in
set_option maxRecDepth 20000 in
theorem List_any (b : Nat) (f : Int) (hb1 : 1 ≤ b) (hb3 : b ≤ 3) (hf : f + 1 = b) (a : Option Addr) (c : Nat) (m : List Nat) (w : World) (hB : Byt m) (hlen : m.length ≤ 2000) (hA : BytV a m w) :
    Calls Tryd.prog 25 #[.int .i64 f, .slice a m.length c] w fun e w' => ∃ v, e = .returned v ∧ NOwn w' w.heap.size 24 .u64 v (words b m) ∧ Below w.heap.size w w' := by
  obtain ⟨i0, hi, hz0, hz1, hz2⟩ := info_parts info8
  obtain ⟨j0, hj', hy0, hy1, hy2⟩ := info_parts info64
  have HA := Lib.hid hA
  clear hA
  have hbl : m.length + 1 ≤ b * (m.length / b + 1) := full_ge hb1
  have hdl : m.length / b ≤ 2000 := Nat.le_trans (Nat.div_le_self _ _) hlen
  have hL : b * (m.length / b + 1) ≤ 6003 := Nat.le_trans (Nat.mul_le_mul hb3 (show m.length / b + 1 ≤ 2001 by omega)) (by decide)
  have hnf : ∀ q, m.length + 1 ≤ q → q < b * (m.length / b + 1) → q % b ≠ 0 := fun q => not_full hb1
  have HW := Lib.hid (words_cons b m)
  generalize hq : m.length / b + 1 = q0 at *
  have hLb : (b * q0) % b = 0 := Nat.mul_mod_right b q0
  have hown : Hid ((w.alloc (.cells #[] 5)).ownsRow w.heap.size 5 1 (.slice (some ⟨w.heap.size, 0, none⟩) 0 0) 0 []) :=
    ⟨rfl, Or.inr ⟨w.heap.size, 0, #[], rfl, Nat.le_refl _, blk_new _ _, by omega, by decide, rfl, rfl⟩⟩
  have hsrc := Lib.hid ((HA.out.step ((Below.refl _ _).alloc (Nat.le_refl _) (.cells #[] 5))).src)
  have hFl : (flatN .u8 m).length = m.length * 1 := by rw [flatN_len]; omega
  have hone := flatN_one (k := .u8) (xs := m)
  have hP0 : Hid (∀ (v : Value) (W : World), W.ownsRow w.heap.size 5 1 v (0 + m.length + 1) ([] ++ flatN .u8 m ++ [.int .u8 1]) → NOwn W w.heap.size 5 .u8 v (pad m 0)) := fun v W h => by
    have h2 : W.ownsRow w.heap.size 5 1 v (m.length + 1) (flatN .u8 m ++ [.int .u8 (1 : Nat)]) := by simpa using h
    exact NOwn.more h2
  generalize flatN .u8 m = FF at *
  go_enter Tryd.func25, Tryd.ntmps25
  go_wp2_with (first | (at_builtin; refine wpList_append_src rfl (.tmp 13) (.tmp 14) 22 rfl (w.heap.size) 5 i0 (.int .u8 0) 1 1 Tryd.underlying22 hi hz0 hz1 hz2 rfl (by decide) _ _ _ rfl hown.out a m.length c FF rfl hFl hsrc.out hone (by unfold maxLen; omega) (by omega) (by simp) ?_; intro v1 w1 hO1 hg1; have kB1 : Below w.heap.size w w1 := ((Below.refl _ _).alloc (Nat.le_refl _) (.cells #[] 5)).grown hg1 (by simp) (own_ge' hown.out)) | (at_builtin; refine wpList_append_own _ rfl (.tmp 15) (.tmp 16) 22 rfl (w.heap.size) 5 i0 (.int .u8 0) 1 1 Tryd.underlying22 hi hz0 hz1 hz2 rfl (by decide) _ _ _ rfl (World.ownsRow.alloc hO1 _) ⟨w1.heap.size, 0, none⟩ 1 1 [.int .u8 1] rfl rfl (one_cellsN _ _ _ _) (one_oneN _ _) (by unfold maxLen; omega) (by omega) (by have := kB1.size; simp; omega) ?_; intro v2 w2 hO2 hg2 hnil2))
  have HO2 := Lib.hid (hP0.out _ _ hO2)
  have kB2 : Below w.heap.size w w2 := (kB1.alloc kB1.size (.cells #[.int .u8 1] 5)).grown hg2 (by have := kB1.size; simp; omega) (own_ge' hO1)
  clear hO1 hO2 hg1 hg2 hnil2 hP0 hsrc hone hFl hown kB1
  have hbz : (b : Int) ≠ 0 := by omega
  go_loopw [6] (fun v wr => ∃ j : Nat, m.length + 1 + j ≤ b * q0 ∧ Hid (NOwn wr w.heap.size 5 .u8 v (pad m j)) ∧ Below w.heap.size w wr) (fun v _ => b * q0 - lnV v)
  case atStart => exact ⟨0, by omega, HO2, kB2⟩
  case round =>
    obtain ⟨j, hj1, HO, kB⟩ := hrel
    obtain ⟨a', c', rfl, hc'⟩ := HO.out.at_
    have hpl := pad_len m j
    have HM := Lib.hid (pad_more m j)
    clear hc'
    by_cases hfull : m.length + 1 + j = b * q0
    · have hmod : ((pad m j).length : Int) % b = 0 := by rw [hpl, hfull]; exact_mod_cast hLb
      have hget : ∀ q, (pad m j).getD q 0 = bt m q := pad_get m j
      have hpl2 := Lib.hid (show (pad m j).length = b * q0 by omega)
      clear hpl hj1 hfull hbl hnf HM
      generalize hpj : pad m j = PJ at *
      go_wp2_with fail
      clear hmod
      go_loopw [7, 8, 9, 10] (fun v i _ _ wr2 => ∃ t : Nat, t ≤ q0 ∧ i = .int .i64 (b * t : Nat) ∧ Hid (NOwn wr2 w.heap.size 24 .u64 v (1 :: (List.range t).map (wd b m))) ∧ Hid (NOwn wr2 w.heap.size 5 .u8 (.slice a' PJ.length c') PJ) ∧ Below w.heap.size w wr2) (fun _ i _ _ _ => b * q0 - (intOf i).toNat)
      case atStart => exact ⟨0, Nat.zero_le _, by simp, ⟨rfl, Or.inr ⟨wr.heap.size, 1, #[.int .u64 1], rfl, kB.size, blk_new _ _, Nat.le_refl _, by decide, rfl, rfl⟩⟩, HO.out.step ((Below.refl _ _).alloc (Nat.le_refl _) _), kB.alloc kB.size _⟩
      case round =>
        obtain ⟨t, ht, rfl, HV, HP, kC⟩ := hrel
        have hpl3 := hpl2.out
        by_cases hlt : t < q0
        · have hbt : b * t + b ≤ b * q0 := by rw [← Nat.mul_succ]; exact Nat.mul_le_mul_left b hlt
          have hlt' : ((b * t : Nat) : Int) < (PJ.length : Int) := by omega
          have hb2 : b * t ≤ 6003 := by omega
          have hPle : PJ.length ≤ 6003 := by omega
          have hnx2 : ∀ j, wdTo b m t (j + 1) = 256 * wdTo b m t j + bt m (b * t + j) := fun j => by rw [Nat.mul_comm b t]; rfl
          have hend : wdTo b m t b = wd b m t := rfl
          have HR := Lib.hid (show b * t + b = b * (t + 1) from (Nat.mul_succ b t).symm)
          have HT := Lib.hid (List.range_succ (n := t))
          generalize b * t = r at *
          clear hpl3
          go_wp2_with fail
          go_loopw [9, 10] (fun v p w2 => ∃ j : Nat, j ≤ b ∧ v = .int .u64 (wdTo b m t j) ∧ p = .int .i64 j ∧ w2 = wr) (fun _ p _ => b - (intOf p).toNat)
          case atStart => exact ⟨0, Nat.zero_le _, rfl, rfl, rfl⟩
          case round =>
            obtain ⟨j, hj, rfl, rfl, rfl⟩ := hrel
            by_cases hjb : j < b
            · have hs := wdTo_small hB hb3 hjb t
              have hn2 := hnx2 j
              have hpl4 := hpl2.out
              obtain ⟨bm, om, rfl, hcm⟩ := HP.out.read (j := r + j) (by omega)
              rw [hget] at hcm
              have hbl2 := bt_lt hB (r + j)
              have e3 : ((r : Int) + j) = ((r + j : Nat) : Int) := by push_cast; rfl
              generalize bt m (r + j) = cc at *
              generalize hv : wdTo b m t j = v at *
              generalize hv2 : wdTo b m t (j + 1) = v2 at *
              have hrj : r + j < PJ.length := by omega
              generalize r + j = rj at *
              clear hpl4
              go_wp2_with fail
              go_roundw
              case rel => exact ⟨j + 1, by omega, congrArg _ (by omega), congrArg _ (by omega), by first | trivial | rfl⟩
              case measure => simp [intOf]; omega
            · obtain rfl : j = b := by omega
              rw [hend]
              have hvl : (1 :: (List.range t).map (wd j m)).length = t + 1 := by simp
              have hap : (1 :: (List.range t).map (wd j m)) ++ [wd j m t] = 1 :: (List.range (t + 1)).map (wd j m) := by rw [HT.out, List.map_append, List.cons_append]; rfl
              have hn3 : (1 :: (List.range t).map (wd j m)).length ≤ 10000 := by omega
              clear hvl hnx2 hget hend
              generalize (1 :: (List.range t).map (wd j m)) = VS at *
              generalize wd j m t = vv at *
              go_wp2_with (at_builtin; refine wpList_append_own _ rfl (.tmp 49) (.tmp 51) 51 rfl (w.heap.size) 24 j0 (.int .u64 0) 1 8 Tryd.underlying51 hj' hy0 hy1 hy2 rfl (by decide) _ _ _ rfl (World.ownsRow.alloc HV.out _) ⟨wr.heap.size, 0, none⟩ 1 1 [.int .u64 vv] rfl rfl (one_cellsN _ _ _ _) (one_oneN _ _) (by unfold maxLen; omega) (by omega) (by have := kC.size; simp; omega) ?_; intro v3 w3 hO3 hg3 hnil3)
              have HO3 := Lib.hid (NOwn.more hO3)
              rw [hap] at HO3
              have HP3 : Hid (NOwn w3 w.heap.size 5 .u8 (.slice a' PJ.length c') PJ) := World.ownsRow.kept (World.ownsRow.alloc HP.out _) hg3 (own_diff (by decide) HP.out HV.out)
              have kB3 : Below w.heap.size w w3 := (kC.alloc kC.size _).grown hg3 (by have := kC.size; simp; omega) (own_ge' HV.out)
              go_roundw
              case rel => exact ⟨t + 1, by omega, by rw [← HR.out]; go_num, HO3, HP3, kB3⟩
              case measure => simp [intOf]; omega
        · obtain rfl : t = q0 := by omega
          have hge : (PJ.length : Int) = ((b * t : Nat) : Int) := by omega
          clear hpl3
          generalize b * t = r at *
          go_wp2_with fail
          go_ret
          exact ⟨_, rfl, by rw [HW.out]; exact HV.out, kC⟩
    · have hmod : ((pad m j).length : Int) % b ≠ 0 := by
        rw [hpl]
        have := hnf (m.length + 1 + j) (by omega) (by omega)
        exact_mod_cast this
      have hle : (pad m j).length ≤ 10000 := by omega
      have hpl2 := Lib.hid hpl
      clear hpl
      generalize hpj : pad m j = PJ at *
      go_wp2_with (at_builtin; refine wpList_append_own _ rfl (.tmp 23) (.tmp 24) 22 rfl (w.heap.size) 5 i0 (.int .u8 0) 1 1 Tryd.underlying22 hi hz0 hz1 hz2 rfl (by decide) _ _ _ rfl (World.ownsRow.alloc HO.out _) ⟨wr.heap.size, 0, none⟩ 1 1 [.int .u8 0] rfl rfl (one_cellsN _ _ _ _) (one_oneN _ _) (by unfold maxLen; omega) (by omega) (by have := kB.size; simp; omega) ?_; intro v3 w3 hO3 hg3 hnil3)
      have HO3 := Lib.hid (NOwn.more hO3)
      rw [HM.out] at HO3
      have kB3 : Below w.heap.size w w3 := (kB.alloc kB.size _).grown hg3 (by have := kB.size; simp; omega) (own_ge' HO.out)
      have hpl3 := hpl2.out
      go_roundw
      case rel => exact ⟨j + 1, by omega, HO3, kB3⟩
      case measure =>
        obtain ⟨a3, c3, e3, -⟩ := HO3.out.at_
        rw [e3, pad_len]
        show _ - (m.length + 1 + (j + 1)) < _ - PJ.length
        omega
end Go.Proofs.YtlhponankanlmaaDoor

/-
  Fields, words, digests and tags: of the code, and of the reference.
-/
set_option linter.unusedSimpArgs false
set_option linter.unusedVariables false
namespace Go.Proofs.YtlhponankanlmaaDoor
open Go.RowKit

def prim : Nat → Nat
  | 0 => 257
  | 1 => 65537
  | _ => 2147483647
theorem prim_bd (i : Nat) : 257 ≤ prim i ∧ prim i < 2147483648 := by
  unfold prim
  split <;> decide
/-- Which field a number names. -/
def fi (n : Int) : Option Nat := if 0 ≤ n ∧ n < 3 then some n.toNat else none
theorem fi_cases (n : Int) : ((n < 0 ∨ 3 ≤ n) ∧ fi n = none) ∨ ∃ i : Nat, i < 3 ∧ n = i ∧ fi n = some i := by
  unfold fi
  by_cases h : 0 ≤ n ∧ n < 3
  · right
    rw [if_pos h]
    exact ⟨n.toNat, by omega, by omega, rfl⟩
  · left
    rw [if_neg h]
    exact ⟨by omega, rfl⟩
def wordsR (n k : Int) : Int × Int := match fi n with
  | none => (0, 2)
  | some i => if k < 0 ∨ 1000 < k then (0, 3) else (k / (i + 1 : Nat) + 2, 0)
def digR (n : Int) (x : Nat) (m : List Nat) : Nat × Int := match fi n with
  | none => (0, 2)
  | some i => if 1000 < m.length then (0, 7) else if x < 1 ∨ prim i ≤ x then (0, 3) else (dig (prim i) (i + 1) x m, 0)
def tagR (n : Int) (x pad : Nat) (m : List Nat) : Nat × Int := match fi n with
  | none => (0, 2)
  | some i => if (digR n x m).2 ≠ 0 then (0, (digR n x m).2) else if prim i ≤ pad then (0, 3) else (((digR n x m).1 + pad) % prim i, 0)

theorem fieldOf_none (n : Int) (hn : n < 0 ∨ 3 ≤ n) (w : World) : Calls Tryd.prog 21 #[.int .i64 n] w fun e w' => e = .returned (.pointer none) ∧ Below w.heap.size w w' := by
  rcases hn with hn | hn
  all_goals
    go_enter Tryd.func21, Tryd.ntmps21
    go_wp2
    go_ret
    exact ⟨rfl, (by repeat' (first | exact Below.refl _ _ | assumption | apply bDrewN | apply bDrew | apply bAlloc | (refine bSet ?_ ?_ _) | (refine bStep ?_ (by assumption)) | omega | (simp <;> omega)))⟩
theorem fieldOf_some (i : Nat) (hi : i < 3) (w : World) : Calls Tryd.prog 21 #[.int .i64 i] w fun e w' => ∃ B off, e = .returned (.pointer (some ⟨B, off, none⟩)) ∧ w.heap.size ≤ B ∧ B < w'.heap.size ∧
    w'.cell? ⟨B, off, none⟩ = some (.int .u64 (prim i)) ∧ w'.cell? ⟨B, off + 1, none⟩ = some (.int .i64 (i + 1 : Nat)) ∧ Below w.heap.size w w' := by
  have hc : i = 0 ∨ i = 1 ∨ i = 2 := by omega
  rcases hc with rfl | rfl | rfl
  all_goals
    go_enter Tryd.func21, Tryd.ntmps21
    go_wp2
    go_ret
    refine ⟨_, _, rfl, Nat.le_refl _, by simp, ?_, ?_, (by repeat' (first | exact Below.refl _ _ | assumption | apply bDrewN | apply bDrew | apply bAlloc | (refine bSet ?_ ?_ _) | (refine bStep ?_ (by assumption)) | omega | (simp <;> omega)))⟩ <;> (first | (go_simp; done) | (go_simp; rfl) | trace_state)
theorem Prime_any (n : Int) (w : World) : Calls Tryd.prog 23 #[.int .i64 n] w fun e w' => e = .returned (.int .u64 (match fi n with | none => 0 | some i => prim i : Nat)) ∧ w = w' := by
  rcases fi_cases n with ⟨hn, hf⟩ | ⟨i, hi, rfl, hf⟩
  · rw [hf]
    have h0 : n ≠ 0 := by omega
    have h1 : n ≠ 1 := by omega
    have h2 : n ≠ 2 := by omega
    go_enter Tryd.func23, Tryd.ntmps23
    go_wp2
    go_ret
    exact ⟨rfl, rfl⟩
  · rw [hf]
    have hc : i = 0 ∨ i = 1 ∨ i = 2 := by omega
    rcases hc with rfl | rfl | rfl
    all_goals
      go_enter Tryd.func23, Tryd.ntmps23
      go_wp2
      go_ret
      exact ⟨rfl, rfl⟩
end Go.Proofs.YtlhponankanlmaaDoor

/-
  Words, Digest and Tag of the code.
-/
set_option linter.unusedSimpArgs false
set_option linter.unusedVariables false
namespace Go.Proofs.YtlhponankanlmaaDoor
open Go.RowKit

theorem BytV.at_ {a : Option Addr} {m : List Nat} {W : World} (h : BytV a m W) : BytAt a m W.heap.size W.heap.size W := fun hn => by
  obtain ⟨b, off, rfl, h1, h2⟩ := h hn
  exact ⟨b, off, rfl, ⟨h1, by omega⟩, h2⟩
theorem digest_any (p b x bf off cap : Nat) (a : Option Addr) (m : List Nat) (w : World) (hp0 : 0 < p) (hp : p < 2147483648) (hx : x < 2147483648) (hb1 : 1 ≤ b) (hb3 : b ≤ 3) (hB : Byt m) (hlen : m.length ≤ 2000)
    (hbf : bf < w.heap.size) (hP : w.cell? ⟨bf, off, none⟩ = some (.int .u64 p)) (hQ : w.cell? ⟨bf, off + 1, none⟩ = some (.int .i64 b)) (hA : BytV a m w) :
    Calls Tryd.prog 22 #[.pointer (some ⟨bf, off, none⟩), .int .u64 x, .slice a m.length cap] w fun e w' => e = .returned (.int .u64 (dig p b x m)) ∧ Below w.heap.size w w' :=
  callsIn_wide.1 (digest_in p b x bf off cap a m w hp0 hp hx hb1 hb3 hB hlen hbf hP hQ hA.at_)

set_option maxHeartbeats 1000000 in
set_option maxRecDepth 20000 in
theorem Words_any (n k : Int) (w : World) (hk0 : -9223372036854775808 ≤ k) (hk1 : k ≤ 9223372036854775807) :
    Calls Tryd.prog 10 #[.int .i64 n, .int .i64 k] w fun e w' => e = .returned (.tuple #[.int .i64 (wordsR n k).1, .int .i64 (wordsR n k).2]) ∧ Below w.heap.size w w' := by
  unfold wordsR
  rcases fi_cases n with ⟨hn, hf⟩ | ⟨i, hi, rfl, hf⟩
  · rw [hf]
    have C := Lib.hid (fun w => fieldOf_none n hn w)
    clear hn hf
    go_enter Tryd.func10, Tryd.ntmps10
    go_wp2_with (go_at_call 21; refine (C.out _).mono ?_; rintro e w1 ⟨rfl, hb⟩)
    exact bodyPost_ret (v := .tuple #[.int .i64 0, .int .i64 2]) (by simp only [results, Tryd.results10]; go_simp) rfl ⟨rfl, (by repeat' (first | exact Below.refl _ _ | assumption | apply bDrewN | apply bDrew | apply bAlloc | (refine bSet ?_ ?_ _) | (refine bStep ?_ (by assumption)) | omega | (simp <;> omega)))⟩
  · rw [hf]
    have C := Lib.hid (fun w => fieldOf_some i hi w)
    dsimp only
    have hi1 : ((i + 1 : Nat) : Int) ≠ 0 := by omega
    by_cases h : k < 0 ∨ 1000 < k
    · rw [if_pos h]
      rcases h with h | h
      all_goals
        go_enter Tryd.func10, Tryd.ntmps10
        go_wp2_with (go_at_call 21; refine (C.out _).mono ?_; rintro e w1 ⟨B, off, rfl, hB1, hB2, hc1, hc2, hb⟩)
        exact bodyPost_ret (v := .tuple #[.int .i64 0, .int .i64 3]) (by simp only [results, Tryd.results10]; go_simp) rfl ⟨rfl, (by repeat' (first | exact Below.refl _ _ | assumption | apply bDrewN | apply bDrew | apply bAlloc | (refine bSet ?_ ?_ _) | (refine bStep ?_ (by assumption)) | omega | (simp <;> omega)))⟩
    · rw [if_neg h]
      have h1 : 0 ≤ k := by omega
      have h2 : k ≤ 1000 := by omega
      have q1 : 0 ≤ k / ((i + 1 : Nat) : Int) := Int.ediv_nonneg h1 (by omega)
      have q2 : k / ((i + 1 : Nat) : Int) ≤ k := Int.ediv_le_self _ h1
      clear h hf
      generalize hb' : ((i + 1 : Nat) : Int) = b at *
      have hb0 : 1 ≤ b := by omega
      have hb3 : b ≤ 3 := by omega
      clear hb' hi
      go_enter Tryd.func10, Tryd.ntmps10
      go_wp2_with (go_at_call 21; refine (C.out _).mono ?_; rintro e w1 ⟨B, off, rfl, hB1, hB2, hc1, hc2, hb⟩)
      exact bodyPost_ret (v := .tuple #[.int .i64 (k / b + 2), .int .i64 0]) (by simp only [results, Tryd.results10]; go_simp) rfl ⟨rfl, (by repeat' (first | exact Below.refl _ _ | assumption | apply bDrewN | apply bDrew | apply bAlloc | (refine bSet ?_ ?_ _) | (refine bStep ?_ (by assumption)) | omega | (simp <;> omega)))⟩
set_option maxHeartbeats 1000000 in
set_option maxRecDepth 20000 in
theorem Digest_any (n : Int) (x c : Nat) (a : Option Addr) (m : List Nat) (w : World) (hx : x < 18446744073709551616) (hB : Byt m) (hlen : m.length ≤ 2000) (hA : BytV a m w) :
    Calls Tryd.prog 9 #[.int .i64 n, .int .u64 x, .slice a m.length c] w fun e w' => e = .returned (.tuple #[.int .u64 (digR n x m).1, .int .i64 (digR n x m).2]) ∧ Below w.heap.size w w' := by
  unfold digR
  rcases fi_cases n with ⟨hn, hf⟩ | ⟨i, hi, rfl, hf⟩
  · rw [hf]
    have C := Lib.hid (fun w => fieldOf_none n hn w)
    clear hn hf
    go_enter Tryd.func9, Tryd.ntmps9
    go_wp2_with (go_at_call 21; refine (C.out _).mono ?_; rintro e w1 ⟨rfl, hb⟩)
    exact bodyPost_ret (v := .tuple #[.int .u64 0, .int .i64 2]) (by simp only [results, Tryd.results9]; go_simp) rfl ⟨rfl, (by repeat' (first | exact Below.refl _ _ | assumption | apply bDrewN | apply bDrew | apply bAlloc | (refine bSet ?_ ?_ _) | (refine bStep ?_ (by assumption)) | omega | (simp <;> omega)))⟩
  · rw [hf]
    have C := Lib.hid (fun w => fieldOf_some i hi w)
    have hp := prim_bd i
    dsimp only
    have HA := Lib.hid hA
    have hi3 : i + 1 ≤ 3 := by omega
    have hi1 : 1 ≤ i + 1 := by omega
    have HD := Lib.hid (fun (bf off : Nat) (w1 : World) (hbf : bf < w1.heap.size) h1 h2 h3 (h4 : x < prim i) => digest_any (prim i) (i + 1) x bf off c a m w1 (by omega) hp.2 (by omega) hi1 hi3 hB hlen hbf h1 h2 h3)
    clear hA hf hi3 hi1 hi
    generalize dig (prim i) (i + 1) x m = D at *
    generalize hP : prim i = P at *
    generalize i + 1 = b at *
    by_cases h1 : 1000 < m.length
    · rw [if_pos h1]
      have h1' : 1000 < (m.length : Int) := by omega
      generalize m.length = L at *
      go_enter Tryd.func9, Tryd.ntmps9
      go_wp2_with (go_at_call 21; refine (C.out _).mono ?_; rintro e w1 ⟨B, off, rfl, hB1, hB2, hc1, hc2, hb⟩)
      exact bodyPost_ret (v := .tuple #[.int .u64 0, .int .i64 7]) (by simp only [results, Tryd.results9]; go_simp) rfl ⟨rfl, (by repeat' (first | exact Below.refl _ _ | assumption | apply bDrewN | apply bDrew | apply bAlloc | (refine bSet ?_ ?_ _) | (refine bStep ?_ (by assumption)) | omega | (simp <;> omega)))⟩
    · rw [if_neg h1]
      have h1' : (m.length : Int) ≤ 1000 := by omega
      by_cases h2 : x < 1 ∨ P ≤ x
      · rw [if_pos h2]
        have h2' : (x : Int) < 1 ∨ (1 ≤ (x : Int) ∧ (P : Int) ≤ x) := by omega
        clear h2 h1 HD
        rcases h2' with h2 | ⟨h2, h3⟩
        all_goals
          go_enter Tryd.func9, Tryd.ntmps9
          go_wp2_with (go_at_call 21; refine (C.out _).mono ?_; rintro e w1 ⟨B, off, rfl, hB1, hB2, hc1, hc2, hb⟩)
          exact bodyPost_ret (v := .tuple #[.int .u64 0, .int .i64 3]) (by simp only [results, Tryd.results9]; go_simp) rfl ⟨rfl, (by repeat' (first | exact Below.refl _ _ | assumption | apply bDrewN | apply bDrew | apply bAlloc | (refine bSet ?_ ?_ _) | (refine bStep ?_ (by assumption)) | omega | (simp <;> omega)))⟩
      · rw [if_neg h2]
        have h2' : 1 ≤ (x : Int) := by omega
        have h3 : (x : Int) < P := by omega
        have h4 : x < P := by omega
        clear h2 h1
        go_enter Tryd.func9, Tryd.ntmps9
        go_wp2_with (first | (go_at_call 21; refine (C.out _).mono ?_; rintro e w1 ⟨B, off, rfl, hB1, hB2, hc1, hc2, hb⟩) | (go_at_call 22; refine (HD.out _ _ _ hB2 hc1 hc2 (HA.out.step hb) h4).mono ?_; rintro e w2 ⟨rfl, hb2⟩))
        exact bodyPost_ret (v := .tuple #[.int .u64 D, .int .i64 0]) (by simp only [results, Tryd.results9]; go_simp) rfl ⟨rfl, (by repeat' (first | exact Below.refl _ _ | assumption | apply bDrewN | apply bDrew | apply bAlloc | (refine bSet ?_ ?_ _) | (refine bStep ?_ (by assumption)) | omega | (simp <;> omega)))⟩
end Go.Proofs.YtlhponankanlmaaDoor

/-
  The reference's sum.
-/
set_option linter.unusedSimpArgs false
set_option linter.unusedVariables false
namespace Go.Proofs.YtlhponankanlmaaDoor
open Go.RowKit

theorem powS_snoc (p x : Nat) (c : Nat) : ∀ (l : List Nat) (s : Nat × Nat), powS p x (l ++ [c]) s = (((powS p x l s).1 + c % p * (powS p x l s).2) % p, (powS p x l s).2 * x % p)
  | [], _ => rfl
  | d :: l, s => powS_snoc p x c l _
theorem powS_bd {p x : Nat} (hp : 0 < p) (hx : x < p) : ∀ (l : List Nat) (s : Nat × Nat), s.1 < p → s.2 < p → (powS p x l s).1 < p ∧ (powS p x l s).2 < p
  | [], _, h1, h2 => ⟨h1, h2⟩
  | c :: l, s, _, _ => powS_bd hp hx l _ (Nat.mod_lt _ hp) (Nat.mod_lt _ hp)
theorem rev_get {ws : List Nat} {k : Nat} (hk : k < ws.length) : ws.reverse.take (k + 1) = ws.reverse.take k ++ [ws.getD (ws.length - 1 - k) 0] := by
  rw [List.take_succ_eq_append_getElem (by simpa using hk)]
  congr 2
  rw [List.getElem_reverse, List.getD_eq_getElem?_getD, List.getElem?_eq_getElem (by omega)]
  rfl

theorem u64_tmod {n P : Nat} (hn : n < 18446744073709551616) : (IntKind.u64.wrap (n : Int)).tmod P = ((n % P : Nat) : Int) := by
  rw [Go.IntWalk.u64_in _ ⟨by omega, by omega⟩, Int.tmod_eq_emod_of_nonneg (by omega)]
  rfl
theorem sum_step {P O Q d x : Nat} (hP : P < 2147483648) (hO : O < P) (hQ : Q < P) (hx : x < P) :
    (IntKind.u64.wrap ((O : Int) + IntKind.u64.wrap ((d : Int) % P * Q))).tmod P = (((O + d % P * Q) % P : Nat) : Int) ∧ (IntKind.u64.wrap ((Q : Int) * x)).tmod P = ((Q * x % P : Nat) : Int) := by
  have hr : d % P < P := Nat.mod_lt _ (by omega)
  have h1 : d % P * Q ≤ 2147483648 * 2147483648 := Nat.mul_le_mul (by omega) (by omega)
  have h2 : Q * x ≤ 2147483648 * 2147483648 := Nat.mul_le_mul (by omega) (by omega)
  have e1 : ((d : Int) % P * Q) = ((d % P * Q : Nat) : Int) := by push_cast; rfl
  have e2 : ((Q : Int) * x) = ((Q * x : Nat) : Int) := by push_cast; rfl
  rw [e1, e2]
  generalize d % P * Q = T at *
  generalize Q * x = U at *
  rw [Go.IntWalk.u64_in (T : Int) ⟨by omega, by omega⟩, show ((O : Int) + T) = ((O + T : Nat) : Int) by push_cast; rfl]
  exact ⟨u64_tmod (by omega), u64_tmod (by omega)⟩
set_option maxHeartbeats 2000000 in
set_option maxRecDepth 20000 in
theorem sum_any (i : Nat) (hi : i < 3) (x c : Nat) (a : Option Addr) (m : List Nat) (w : World) (hx : x < prim i) (hB : Byt m) (hlen : m.length ≤ 2000) (hA : BytV a m w) :
    Calls Tryd.prog 24 #[.int .i64 i, .int .u64 x, .slice a m.length c] w fun e w' => e = .returned (.int .u64 (dig (prim i) (i + 1) x m)) ∧ Below w.heap.size w w' := by
  have hpr := prim_bd i
  have hfi : fi (i : Int) = some i := by unfold fi; rw [if_pos ⟨by omega, by omega⟩]; rfl
  have CP := Lib.hid (fun w => Prime_any (i : Int) w)
  rw [hfi] at CP
  dsimp only at CP
  have CL := Lib.hid (fun w hA => List_any (i + 1) (i : Int) (by omega) (by omega) (by push_cast; rfl) a c m w hB hlen hA)
  have HA := Lib.hid hA
  have hwl : (words (i + 1) m).length ≤ 2002 := by
    rw [words_len]; unfold wn
    have := Nat.div_le_self m.length (i + 1)
    omega
  have hdig : Hid ((powS (prim i) x (words (i + 1) m).reverse (0, x)).1 = dig (prim i) (i + 1) x m) := powS_eq (by omega) x _
  have hbd : Hid (∀ l, (powS (prim i) x l (0, x)).1 < prim i ∧ (powS (prim i) x l (0, x)).2 < prim i) := fun l => powS_bd (by omega) hx l (0, x) (by show 0 < _; omega) hx
  have hst : Hid (∀ l d, powS (prim i) x (l ++ [d]) (0, x) = (((powS (prim i) x l (0, x)).1 + d % prim i * (powS (prim i) x l (0, x)).2) % prim i, (powS (prim i) x l (0, x)).2 * x % prim i)) := fun l d => powS_snoc _ _ d l _
  have hrv : Hid (∀ k, k < (words (i + 1) m).length → (words (i + 1) m).reverse.take (k + 1) = (words (i + 1) m).reverse.take k ++ [(words (i + 1) m).getD ((words (i + 1) m).length - 1 - k) 0]) := fun k hk => rev_get hk
  have hend : Hid ((words (i + 1) m).reverse.take (words (i + 1) m).length = (words (i + 1) m).reverse) := List.take_of_length_le (by simp)
  have hwb : Hid (∀ k, (words (i + 1) m).getD k 0 < 16777216) := fun k => by
    unfold words
    rw [List.getD_eq_getElem?_getD, List.getElem?_map]
    cases h : (List.range (wn (i + 1) m))[k]? with
    | none => simp
    | some j => simpa using wx_lt hB (show i + 1 ≤ 3 by omega) j
  generalize dig (prim i) (i + 1) x m = D at *
  generalize words (i + 1) m = WS at *
  generalize prim i = P at *
  clear hA hfi
  go_enter Tryd.func24, Tryd.ntmps24
  go_wp2_with (first | (go_at_call 23; refine (CP.out _).mono ?_; rintro e w1 ⟨rfl, rfl⟩) | (go_at_call 25; refine (CL.out _ HA.out).mono ?_; rintro e w1 ⟨v, rfl, hv, hb⟩; obtain ⟨a', c', rfl, -⟩ := NOwn.at_ hv; have HV := Lib.hid hv; clear hv))
  go_loopw [9, 10, 11] (fun o q j wr => ∃ k : Nat, k ≤ WS.length ∧ o = .int .u64 (powS P x (WS.reverse.take k) (0, x)).1 ∧ q = .int .u64 (powS P x (WS.reverse.take k) (0, x)).2 ∧ j = .int .i64 ((WS.length : Int) - 1 - k) ∧ wr = w1) (fun _ _ j _ => (intOf j + 1).toNat)
  case atStart => exact ⟨0, Nat.zero_le _, rfl, rfl, by simp, rfl⟩
  case round =>
    obtain ⟨k, hk, rfl, rfl, rfl, rfl⟩ := hrel
    by_cases hlt : k < WS.length
    · obtain ⟨b1, b2⟩ := hbd.out (WS.reverse.take k)
      have hs := hst.out (WS.reverse.take k) (WS.getD (WS.length - 1 - k) 0)
      rw [← hrv.out k hlt] at hs
      have hwd := hwb.out (WS.length - 1 - k)
      obtain ⟨bm, om, rfl, hcm⟩ := HV.out.read (j := WS.length - 1 - k) (by omega)
      have hS1 := Lib.hid (congrArg Prod.fst hs)
      have hS2 := Lib.hid (congrArg Prod.snd hs)
      dsimp only at hS1 hS2
      clear hs
      have hidx : ((WS.length : Int) - 1 - k) = ((WS.length - 1 - k : Nat) : Int) := by omega
      have hil : WS.length - 1 - k < WS.length := by omega
      have HK := Lib.hid (show WS.length - 1 - (k + 1) = WS.length - 1 - k - 1 by omega)
      rw [hidx]
      have hnext : Hid (((WS.length - 1 - k : Nat) : Int) - 1 = (WS.length : Int) - 1 - ((k + 1 : Nat) : Int)) := by unfold Hid; omega
      generalize (powS P x (WS.reverse.take k) (0, x)).1 = O at *
      generalize (powS P x (WS.reverse.take k) (0, x)).2 = Q at *
      generalize hO2 : (powS P x (WS.reverse.take (k + 1)) (0, x)).1 = O2 at *
      generalize hQ2 : (powS P x (WS.reverse.take (k + 1)) (0, x)).2 = Q2 at *
      generalize WS.getD (WS.length - 1 - k) 0 = d at *
      generalize WS.length - 1 - k = j at *
      have hpz : (P : Int) ≠ 0 := by omega
      have HO2 := Lib.hid hO2
      have HQ2 := Lib.hid hQ2
      clear hO2 hQ2
      obtain ⟨t1, t2⟩ := sum_step (d := d) hpr.2 b1 b2 hx
      rw [← hS1.out] at t1
      rw [← hS2.out] at t2
      have T1 := Lib.hid t1
      have T2 := Lib.hid t2
      clear t1 t2
      go_wp2_with fail
      go_roundw
      case rel => exact ⟨k + 1, by omega, by rw [T1.out, HO2.out], by rw [T2.out, HQ2.out], by rw [hnext.out], by first | trivial | rfl⟩
      case measure => simp [intOf]
    · obtain rfl : k = WS.length := by omega
      have hj : ((WS.length : Int) - 1 - (WS.length : Int)) = -1 := by omega
      rw [hj]
      go_wp2_with fail
      go_ret
      exact ⟨by rw [hend.out, hdig.out]; rfl, hb⟩
end Go.Proofs.YtlhponankanlmaaDoor

/-
  Tag of the code; Words, Digest, Tag of the reference.
-/
set_option linter.unusedSimpArgs false
set_option linter.unusedVariables false
namespace Go.Proofs.YtlhponankanlmaaDoor
open Go.RowKit

theorem digR_lt (n : Int) (i : Nat) (hf : fi n = some i) (x : Nat) (m : List Nat) : (digR n x m).1 < prim i := by
  have hp := prim_bd i
  unfold digR
  rw [hf]
  dsimp only
  split
  · show 0 < _; omega
  · split
    · show 0 < _; omega
    · exact horner_lt (by omega) _ _
theorem digR_bd (n : Int) (x : Nat) (m : List Nat) : (digR n x m).1 < 2147483648 := by
  cases hf : fi n with
  | none => unfold digR; rw [hf]; show 0 < _; omega
  | some i => have := digR_lt n i hf x m; have := prim_bd i; omega
set_option maxHeartbeats 1000000 in
set_option maxRecDepth 20000 in
theorem Tag_any (n : Int) (x pad c : Nat) (a : Option Addr) (m : List Nat) (w : World) (hx : x < 18446744073709551616) (hpad : pad < 18446744073709551616) (hB : Byt m) (hlen : m.length ≤ 2000) (hA : BytV a m w) :
    Calls Tryd.prog 16 #[.int .i64 n, .int .u64 x, .int .u64 pad, .slice a m.length c] w fun e w' => e = .returned (.tuple #[.int .u64 (tagR n x pad m).1, .int .i64 (tagR n x pad m).2]) ∧ Below w.heap.size w w' := by
  have CD := Lib.hid (fun W hA => Digest_any n x c a m W hx hB hlen hA)
  have HA := Lib.hid hA
  have hbd := digR_bd n x m
  have hlt : ∀ i, fi n = some i → (digR n x m).1 < prim i := fun i hf => digR_lt n i hf x m
  have hnone : fi n = none → digR n x m = (0, 2) := fun h => by unfold digR; rw [h]
  unfold tagR
  clear hA
  rcases fi_cases n with ⟨hn, hf⟩ | ⟨i, hi, rfl, hf⟩
  · rw [hf]
    rw [hnone hf] at CD
    dsimp only at CD
    clear hn hf hnone hlt hbd
    go_enter Tryd.func16, Tryd.ntmps16
    go_wp2_with (go_at_call 9; refine (CD.out _ HA.out).mono ?_; rintro e w1 ⟨rfl, hb⟩)
    exact bodyPost_ret (v := .tuple #[.int .u64 0, .int .i64 2]) (by simp only [results, Tryd.results16]; go_simp) rfl ⟨rfl, (by repeat' (first | exact Below.refl _ _ | assumption | apply bDrewN | apply bDrew | apply bAlloc | (refine bSet ?_ ?_ _) | (refine bStep ?_ (by assumption)) | omega | (simp <;> omega)))⟩
  · rw [hf]
    dsimp only
    have hl := hlt i hf
    have hp := prim_bd i
    have CF := Lib.hid (fun w => fieldOf_some i hi w)
    clear hlt hnone hf
    generalize (digR (i : Int) x m).1 = D at *
    generalize (digR (i : Int) x m).2 = E at *
    generalize prim i = P at *
    by_cases h1 : E ≠ 0
    · rw [if_pos h1]
      go_enter Tryd.func16, Tryd.ntmps16
      go_wp2_with (go_at_call 9; refine (CD.out _ HA.out).mono ?_; rintro e w1 ⟨rfl, hb⟩)
      exact bodyPost_ret (v := .tuple #[.int .u64 0, .int .i64 E]) (by simp only [results, Tryd.results16]; go_simp) rfl ⟨rfl, (by repeat' (first | exact Below.refl _ _ | assumption | apply bDrewN | apply bDrew | apply bAlloc | (refine bSet ?_ ?_ _) | (refine bStep ?_ (by assumption)) | omega | (simp <;> omega)))⟩
    · rw [if_neg h1]
      have h1' : E = 0 := by omega
      subst h1'
      by_cases h2 : P ≤ pad
      · rw [if_pos h2]
        have h2' : (P : Int) ≤ pad := by omega
        go_enter Tryd.func16, Tryd.ntmps16
        go_wp2_with (first | (go_at_call 9; refine (CD.out _ HA.out).mono ?_; rintro e w1 ⟨rfl, hb⟩) | (go_at_call 21; refine (CF.out _).mono ?_; rintro e w2 ⟨B, off, rfl, hB1, hB2, hc1, hc2, hb2⟩))
        exact bodyPost_ret (v := .tuple #[.int .u64 0, .int .i64 3]) (by simp only [results, Tryd.results16]; go_simp) rfl ⟨rfl, (by repeat' (first | exact Below.refl _ _ | assumption | apply bDrewN | apply bDrew | apply bAlloc | (refine bSet ?_ ?_ _) | (refine bStep ?_ (by assumption)) | omega | (simp <;> omega)))⟩
      · rw [if_neg h2]
        have h2' : (pad : Int) < P := by omega
        have hpz : (P : Int) ≠ 0 := by omega
        have hS : IntKind.u64.wrap ((D : Int) + pad) = ((D + pad : Nat) : Int) := by
          rw [show ((D : Int) + pad) = ((D + pad : Nat) : Int) by push_cast; rfl]
          exact Go.IntWalk.u64_in _ ⟨by omega, by omega⟩
        have hM : ((D + pad : Nat) : Int).tmod P = (((D + pad) % P : Nat) : Int) := by rw [Int.tmod_eq_emod_of_nonneg (by omega)]; rfl
        have HM := Lib.hid hM
        clear hM
        go_enter Tryd.func16, Tryd.ntmps16
        go_wp2_with (first | (go_at_call 9; refine (CD.out _ HA.out).mono ?_; rintro e w1 ⟨rfl, hb⟩) | (go_at_call 21; refine (CF.out _).mono ?_; rintro e w2 ⟨B, off, rfl, hB1, hB2, hc1, hc2, hb2⟩))
        exact bodyPost_ret (v := .tuple #[.int .u64 (((D : Int) + pad) % P), .int .i64 0]) (by simp only [results, Tryd.results16]; go_simp) rfl ⟨rfl, (by repeat' (first | exact Below.refl _ _ | assumption | apply bDrewN | apply bDrew | apply bAlloc | (refine bSet ?_ ?_ _) | (refine bStep ?_ (by assumption)) | omega | (simp <;> omega)))⟩
set_option maxHeartbeats 1000000 in
set_option maxRecDepth 20000 in
theorem RDigest_any (n : Int) (x c : Nat) (a : Option Addr) (m : List Nat) (w : World) (hx : x < 18446744073709551616) (hB : Byt m) (hlen : m.length ≤ 2000) (hA : BytV a m w) :
    Calls Tryd.prog 15 #[.int .i64 n, .int .u64 x, .slice a m.length c] w fun e w' => e = .returned (.tuple #[.int .u64 (digR n x m).1, .int .i64 (digR n x m).2]) ∧ Below w.heap.size w w' := by
  unfold digR
  have CP := Lib.hid (fun w => Prime_any n w)
  rcases fi_cases n with ⟨hn, hf⟩ | ⟨i, hi, rfl, hf⟩
  · rw [hf] at CP ⊢
    dsimp only at CP ⊢
    clear hn hf
    go_enter Tryd.func15, Tryd.ntmps15
    go_wp2_with (go_at_call 23; refine (CP.out _).mono ?_; rintro e w1 ⟨rfl, rfl⟩)
    exact bodyPost_ret (v := .tuple #[.int .u64 0, .int .i64 2]) (by simp only [results, Tryd.results15]; go_simp) rfl ⟨rfl, (by repeat' (first | exact Below.refl _ _ | assumption | apply bDrewN | apply bDrew | apply bAlloc | (refine bSet ?_ ?_ _) | (refine bStep ?_ (by assumption)) | omega | (simp <;> omega)))⟩
  · rw [hf] at CP ⊢
    dsimp only at CP ⊢
    have hp := prim_bd i
    have HA := Lib.hid hA
    have HD := Lib.hid (fun (h4 : x < prim i) => sum_any i hi x c a m w h4 hB hlen hA)
    clear hA hf hi
    generalize dig (prim i) (i + 1) x m = D at *
    generalize prim i = P at *
    have hpz : (P : Int) ≠ 0 := by omega
    by_cases h1 : 1000 < m.length
    · rw [if_pos h1]
      have h1' : 1000 < (m.length : Int) := by omega
      clear HD
      generalize m.length = L at *
      go_enter Tryd.func15, Tryd.ntmps15
      go_wp2_with (go_at_call 23; refine (CP.out _).mono ?_; rintro e w1 ⟨rfl, rfl⟩)
      exact bodyPost_ret (v := .tuple #[.int .u64 0, .int .i64 7]) (by simp only [results, Tryd.results15]; go_simp) rfl ⟨rfl, (by repeat' (first | exact Below.refl _ _ | assumption | apply bDrewN | apply bDrew | apply bAlloc | (refine bSet ?_ ?_ _) | (refine bStep ?_ (by assumption)) | omega | (simp <;> omega)))⟩
    · rw [if_neg h1]
      have h1' : (m.length : Int) ≤ 1000 := by omega
      by_cases h2 : x < 1 ∨ P ≤ x
      · rw [if_pos h2]
        have h2' : (x : Int) < 1 ∨ (1 ≤ (x : Int) ∧ (P : Int) ≤ x) := by omega
        clear h2 h1 HD
        rcases h2' with h2 | ⟨h2, h3⟩
        all_goals
          go_enter Tryd.func15, Tryd.ntmps15
          go_wp2_with (go_at_call 23; refine (CP.out _).mono ?_; rintro e w1 ⟨rfl, rfl⟩)
          exact bodyPost_ret (v := .tuple #[.int .u64 0, .int .i64 3]) (by simp only [results, Tryd.results15]; go_simp) rfl ⟨rfl, (by repeat' (first | exact Below.refl _ _ | assumption | apply bDrewN | apply bDrew | apply bAlloc | (refine bSet ?_ ?_ _) | (refine bStep ?_ (by assumption)) | omega | (simp <;> omega)))⟩
      · rw [if_neg h2]
        have h2' : 1 ≤ (x : Int) := by omega
        have h3 : (x : Int) < P := by omega
        have h4 : x < P := by omega
        clear h2 h1
        go_enter Tryd.func15, Tryd.ntmps15
        go_wp2_with (first | (go_at_call 23; refine (CP.out _).mono ?_; rintro e w1 ⟨rfl, rfl⟩) | (go_at_call 24; refine (HD.out h4).mono ?_; rintro e w2 ⟨rfl, hb2⟩))
        exact bodyPost_ret (v := .tuple #[.int .u64 D, .int .i64 0]) (by simp only [results, Tryd.results15]; go_simp) rfl ⟨rfl, (by repeat' (first | exact Below.refl _ _ | assumption | apply bDrewN | apply bDrew | apply bAlloc | (refine bSet ?_ ?_ _) | (refine bStep ?_ (by assumption)) | omega | (simp <;> omega)))⟩
set_option maxHeartbeats 1000000 in
set_option maxRecDepth 20000 in
theorem RTag_any (n : Int) (x pad c : Nat) (a : Option Addr) (m : List Nat) (w : World) (hx : x < 18446744073709551616) (hpad : pad < 18446744073709551616) (hB : Byt m) (hlen : m.length ≤ 2000) (hA : BytV a m w) :
    Calls Tryd.prog 17 #[.int .i64 n, .int .u64 x, .int .u64 pad, .slice a m.length c] w fun e w' => e = .returned (.tuple #[.int .u64 (tagR n x pad m).1, .int .i64 (tagR n x pad m).2]) ∧ Below w.heap.size w w' := by
  have CD := Lib.hid (fun W hA => RDigest_any n x c a m W hx hB hlen hA)
  have CP := Lib.hid (fun w => Prime_any n w)
  have HA := Lib.hid hA
  have hbd := digR_bd n x m
  have hlt : ∀ i, fi n = some i → (digR n x m).1 < prim i := fun i hf => digR_lt n i hf x m
  have hnone : fi n = none → digR n x m = (0, 2) := fun h => by unfold digR; rw [h]
  unfold tagR
  clear hA
  rcases fi_cases n with ⟨hn, hf⟩ | ⟨i, hi, rfl, hf⟩
  · rw [hf] at CP ⊢
    rw [hnone hf] at CD
    dsimp only at CD CP ⊢
    clear hn hf hnone hlt hbd
    go_enter Tryd.func17, Tryd.ntmps17
    go_wp2_with (go_at_call 15; refine (CD.out _ HA.out).mono ?_; rintro e w1 ⟨rfl, hb⟩)
    exact bodyPost_ret (v := .tuple #[.int .u64 0, .int .i64 2]) (by simp only [results, Tryd.results17]; go_simp) rfl ⟨rfl, (by repeat' (first | exact Below.refl _ _ | assumption | apply bDrewN | apply bDrew | apply bAlloc | (refine bSet ?_ ?_ _) | (refine bStep ?_ (by assumption)) | omega | (simp <;> omega)))⟩
  · rw [hf] at CP ⊢
    dsimp only at CP ⊢
    have hl := hlt i hf
    have hp := prim_bd i
    clear hlt hnone hf
    generalize (digR (i : Int) x m).1 = D at *
    generalize (digR (i : Int) x m).2 = E at *
    generalize prim i = P at *
    by_cases h1 : E ≠ 0
    · rw [if_pos h1]
      go_enter Tryd.func17, Tryd.ntmps17
      go_wp2_with (go_at_call 15; refine (CD.out _ HA.out).mono ?_; rintro e w1 ⟨rfl, hb⟩)
      exact bodyPost_ret (v := .tuple #[.int .u64 0, .int .i64 E]) (by simp only [results, Tryd.results17]; go_simp) rfl ⟨rfl, (by repeat' (first | exact Below.refl _ _ | assumption | apply bDrewN | apply bDrew | apply bAlloc | (refine bSet ?_ ?_ _) | (refine bStep ?_ (by assumption)) | omega | (simp <;> omega)))⟩
    · rw [if_neg h1]
      have h1' : E = 0 := by omega
      subst h1'
      by_cases h2 : P ≤ pad
      · rw [if_pos h2]
        have h2' : (P : Int) ≤ pad := by omega
        go_enter Tryd.func17, Tryd.ntmps17
        go_wp2_with (first | (go_at_call 15; refine (CD.out _ HA.out).mono ?_; rintro e w1 ⟨rfl, hb⟩) | (go_at_call 23; refine (CP.out _).mono ?_; rintro e w2 ⟨rfl, rfl⟩))
        exact bodyPost_ret (v := .tuple #[.int .u64 0, .int .i64 3]) (by simp only [results, Tryd.results17]; go_simp) rfl ⟨rfl, (by repeat' (first | exact Below.refl _ _ | assumption | apply bDrewN | apply bDrew | apply bAlloc | (refine bSet ?_ ?_ _) | (refine bStep ?_ (by assumption)) | omega | (simp <;> omega)))⟩
      · rw [if_neg h2]
        have h2' : (pad : Int) < P := by omega
        have hpz : (P : Int) ≠ 0 := by omega
        go_enter Tryd.func17, Tryd.ntmps17
        go_wp2_with (first | (go_at_call 15; refine (CD.out _ HA.out).mono ?_; rintro e w1 ⟨rfl, hb⟩) | (go_at_call 23; refine (CP.out _).mono ?_; rintro e w2 ⟨rfl, rfl⟩))
        exact bodyPost_ret (v := .tuple #[.int .u64 (((D : Int) + pad) % P), .int .i64 0]) (by simp only [results, Tryd.results17]; go_simp) rfl ⟨rfl, (by repeat' (first | exact Below.refl _ _ | assumption | apply bDrewN | apply bDrew | apply bAlloc | (refine bSet ?_ ?_ _) | (refine bStep ?_ (by assumption)) | omega | (simp <;> omega)))⟩
end Go.Proofs.YtlhponankanlmaaDoor

/-
  Words of the reference.
-/
set_option linter.unusedSimpArgs false
set_option linter.unusedVariables false
namespace Go.Proofs.YtlhponankanlmaaDoor
open Go.RowKit

theorem byt_zero (n : Nat) : Byt (List.replicate n 0) := fun k => by
  rw [List.getD_eq_getElem?_getD, List.getElem?_replicate]
  split <;> decide
set_option maxHeartbeats 1000000 in
set_option maxRecDepth 20000 in
theorem RWords_any (n k : Int) (w : World) (hk0 : -9223372036854775808 ≤ k) (hk1 : k ≤ 9223372036854775807) :
    Calls Tryd.prog 14 #[.int .i64 n, .int .i64 k] w fun e w' => e = .returned (.tuple #[.int .i64 (wordsR n k).1, .int .i64 (wordsR n k).2]) ∧ Below w.heap.size w w' := by
  unfold wordsR
  have CP := Lib.hid (fun w => Prime_any n w)
  rcases fi_cases n with ⟨hn, hf⟩ | ⟨i, hi, rfl, hf⟩
  · rw [hf] at CP ⊢
    dsimp only at CP ⊢
    clear hn hf
    go_enter Tryd.func14, Tryd.ntmps14
    go_wp2_with (go_at_call 23; refine (CP.out _).mono ?_; rintro e w1 ⟨rfl, rfl⟩)
    exact bodyPost_ret (v := .tuple #[.int .i64 0, .int .i64 2]) (by simp only [results, Tryd.results14]; go_simp) rfl ⟨rfl, (by repeat' (first | exact Below.refl _ _ | assumption | apply bDrewN | apply bDrew | apply bAlloc | (refine bSet ?_ ?_ _) | (refine bStep ?_ (by assumption)) | omega | (simp <;> omega)))⟩
  · rw [hf] at CP ⊢
    dsimp only at CP ⊢
    have hp := prim_bd i
    by_cases h : k < 0 ∨ 1000 < k
    · rw [if_pos h]
      generalize prim i = P at *
      have hpz : (P : Int) ≠ 0 := by omega
      rcases h with h | h
      all_goals
        go_enter Tryd.func14, Tryd.ntmps14
        go_wp2_with (go_at_call 23; refine (CP.out _).mono ?_; rintro e w1 ⟨rfl, rfl⟩)
        exact bodyPost_ret (v := .tuple #[.int .i64 0, .int .i64 3]) (by simp only [results, Tryd.results14]; go_simp) rfl ⟨rfl, (by repeat' (first | exact Below.refl _ _ | assumption | apply bDrewN | apply bDrew | apply bAlloc | (refine bSet ?_ ?_ _) | (refine bStep ?_ (by assumption)) | omega | (simp <;> omega)))⟩
    · rw [if_neg h]
      have h1 : 0 ≤ k := by omega
      have h2 : k ≤ 1000 := by omega
      clear h hf
      obtain ⟨K, rfl⟩ := Int.eq_ofNat_of_zero_le h1
      have CL := Lib.hid (fun (a : Option Addr) (c : Nat) (W : World) hA => List_any (i + 1) (i : Int) (by omega) (by omega) (by push_cast; rfl) a c (List.replicate K 0) W (byt_zero K) (by simp; omega) hA)
      have hwl : Hid ((words (i + 1) (List.replicate K 0)).length = K / (i + 1) + 2) := by unfold Hid; rw [words_len]; unfold wn; rw [List.length_replicate]
      have hln : (List.replicate K 0).length = K := List.length_replicate
      rw [hln] at CL
      clear hln
      generalize words (i + 1) (List.replicate K 0) = WS at *
      generalize prim i = P at *
      have hpz : (P : Int) ≠ 0 := by omega
      obtain ⟨i0, hi0, hz0, hz1, hz2⟩ := info_parts info8
      have hmk := run_make (P := Tryd.prog) w 22 5 i0 (.int .u8 0) Tryd.underlying22 hi0 hz0 .i64 .i64 (K : Int) (K : Int) h1 (Int.le_refl _) (by rw [hz2]; omega) (by omega)
      rw [hz1] at hmk
      simp only [Int.toNat_natCast, Nat.mul_one] at hmk
      have hcell : Hid (BytV (some ⟨w.heap.size, 0, none⟩) (List.replicate K 0) (w.alloc (.cells (madeCells (Value.int .u8 0).cells K) 5))) := fun _ => by
        refine ⟨_, 0, rfl, by simp, fun j hj => ?_⟩
        rw [List.length_replicate] at hj
        have e : (madeCells (Value.int .u8 0).cells K)[0 + j]? = some (.int .u8 0) := by
          have hc1 : (Value.int .u8 0).cells = #[.int .u8 0] := rfl
          unfold madeCells
          rw [hc1, Array.getElem?_map, Nat.zero_add, Array.getElem?_range, if_pos hj]
          simp [Nat.mod_one]
        have hrep : ((List.replicate K 0).getD j 0 : Nat) = 0 := by
          rw [List.getD_eq_getElem?_getD, List.getElem?_replicate, if_pos hj]; rfl
        rw [hrep]
        exact blk_cell (blk_new _ _) e
      generalize madeCells (Value.int .u8 0).cells K = C at *
      have hq1 : 0 ≤ (K : Int) / ((i + 1 : Nat) : Int) := Int.ediv_nonneg h1 (by omega)
      clear hz0 hz1 hz2 hi0
      go_enter Tryd.func14, Tryd.ntmps14
      go_wp2_with (first | (go_at_call 23; refine (CP.out _).mono ?_; rintro e w1 ⟨rfl, rfl⟩) | (go_at_call 25; refine (CL.out _ _ _ hcell.out).mono ?_; rintro e w2 ⟨v, rfl, hv, hb2⟩; obtain ⟨a', c', rfl, -⟩ := NOwn.at_ hv))
      refine bodyPost_ret (v := .tuple #[.int .i64 (WS.length : Nat), .int .i64 0]) (by simp only [results, Tryd.results14]; go_simp) rfl ⟨?_, bStep bAl'' hb2⟩
      have e1 : (WS.length : Int) = (K : Int) / ((i + 1 : Nat) : Int) + 2 := by rw [hwl.out]; rfl
      rw [← e1]
end Go.Proofs.YtlhponankanlmaaDoor
