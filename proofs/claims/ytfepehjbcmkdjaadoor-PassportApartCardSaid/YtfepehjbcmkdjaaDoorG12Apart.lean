/-
  From a row that lists variables to the walk: the powers of 10 and two errors; an event opened.
-/
import Derived.Test.YtfepehjbcmkdjaaDoorG11Apart
import Derived.ChangeSlices
import Derived.OpenShut
import Derived.ChangeSame
import Derived.ProofKit
import Derived.LaidSub
import Derived.Lay
import Derived.MakeChecks
import Derived.LaidLaws
import Derived.KernelRfl
import Derived.Test.YtfepehjbcmkdjaaDoorG9Apart
import Derived.Deep.QuietTactic
set_option linter.unusedSimpArgs false
set_option linter.unusedVariables false
namespace Go.Proofs.YtfepehjbcmkdjaaDoor
open Go.ChangeShapes Go.WideShapes Go.RowKit

theorem errAt_of_laid {n nm : String} {d : DataW Unit} {W : World} {g : Nat} {ti : TypeId} {ms : Array (String × TypeId)}
    (h : laidMet Tryd.prog [(n, .iface nm d)] W) (hg : Tryd.prog.globalNamed n = some g) (ht : (Tryd.prog.globals[g]?).map (·.type) = some ti) (hi : Tryd.prog.underlying ti = some (.interface ms)) : Sx.ErrAt W n := by
  obtain ⟨ps, ⟨g0, t0, cs0, f0, p0, q0, hg0, ht0, hv0, hd0, _, e0⟩, _, hrows⟩ := h
  obtain rfl := Option.some.inj (hg.symm.trans hg0)
  obtain rfl := Option.some.inj (ht.symm.trans ht0)
  obtain ⟨l0⟩ := cs0
  obtain ⟨f1, u, v, e, hn, h1⟩ := iface_of_trod hi hd0
  have e' : l0 = [.iface u v] := e
  subst e'
  exact ⟨u, v, hv0⟩
/-- A list of one variable, which holds an error. -/
def isIf : List (String × DataW Unit) → String → Bool
  | [(x, .iface _ _)], n => x == n
  | _, _ => false
theorem isIf_is {l : List (String × DataW Unit)} {n : String} (h : isIf l n = true) : ∃ m d, l = [(n, .iface m d)] := by
  unfold isIf at h
  split at h
  · have e := eq_of_beq h
    subst e
    exact ⟨_, _, rfl⟩
  · cases h
theorem glob_of_laid {l : List (String × DataW Unit)} (hd : (l.all fun x => x.2.handleName?.isNone) = true)
    (hl : l.filter (fun x => x.1 == Sx.powN) = [(Sx.powN, Lib.tabData .u64 Lib.pow10Tab)]) (hl2 : isIf (l.filter (fun x => x.1 == Sx.rngN)) Sx.rngN = true) (hl3 : isIf (l.filter (fun x => x.1 == Sx.synN)) Sx.synN = true)
    {W : World} (h : laidMetH Tryd.prog l W) : Sx.Glob0 W := by
  obtain ⟨m2, d2, hl2⟩ := isIf_is hl2
  obtain ⟨m3, d3, hl3⟩ := isIf_is hl3
  rw [MakeChecks.laidMetH_plain _ _ _ hd] at h
  have h1 := h.filter (fun x => x.1 == Sx.powN)
  rw [hl] at h1
  have h2 := h.filter (fun x => x.1 == Sx.rngN)
  rw [hl2] at h2
  have h3 := h.filter (fun x => x.1 == Sx.synN)
  rw [hl3] at h3
  exact Sx.glob0_of ⟨Lib.tabIs_of_head (t := 108) (e := 24) (n := 20) Sx.powG_is (by kernel_rfl) Tryd.underlying108 Tryd.underlying24 (by kernel_rfl) (by kernel_rfl) h1,
    errAt_of_laid h2 Sx.rngG_is (by kernel_rfl) Tryd.underlying74, errAt_of_laid h3 Sx.synG_is (by kernel_rfl) Tryd.underlying74⟩

theorem list6 : ∀ {l : List Value}, l.length = 6 → ∃ c0 c1 c2 c3 c4 c5 : Value, l = [c0, c1, c2, c3, c4, c5]
  | [c0, c1, c2, c3, c4, c5], _ => ⟨c0, c1, c2, c3, c4, c5, rfl⟩
section
variable {H : Type} {enc : TypeId × Value → H} {W : World} {held : Bool} {base : Nat}
set_option maxRecDepth 100000 in
theorem event_open {v : Value} {d : DataW H} {p : List MemPlace} (hv : Value.okWide Tryd.prog W .any base 37 v) (h : DataW.Trod enc Tryd.prog W 0 (fun _ => true) held 37 v d p) :
    ∃ (k t a b : Int) (nm ot : ByteArray), v = .agg #[.int .i64 k, .int .i64 t, .int .i64 a, .int .i64 b, .string nm, .string ot] := by
  obtain ⟨cs, rfl, hsz⟩ := okWide_struct Tryd.underlying37 hv
  have h6 : Tryd.prog.cellsOf 37 = 6 := by kernel_rfl
  obtain ⟨l⟩ := cs
  rw [h6] at hsz
  obtain ⟨c0, c1, c2, c3, c4, c5, rfl⟩ := list6 (l := l) (by simpa using hsz)
  obtain ⟨n, ht⟩ := h
  obtain ⟨xs, m, -, -, -, hx, hall⟩ := DataW.trod_struct Tryd.underlying37 (by simpa [Value.cells] using ht)
  have e1 : Tryd.prog.cellsOf 3 = 1 := by kernel_rfl
  have e2 : Tryd.prog.cellsOf 2 = 1 := by kernel_rfl
  have e3 : Tryd.prog.cellsOf 9 = 1 := by kernel_rfl
  have hx4 : ∀ j, j < 6 → ∃ x, xs[j]? = some x := fun j hj => ⟨xs[j]'(by rw [hx]; exact hj), List.getElem?_eq_getElem _⟩
  have I : ∀ j, j < 4 → ∃ n : Int, ([c0, c1, c2, c3, c4, c5].drop j).take 1 = [.int .i64 n] := by
    intro j hj
    have hc : j = 0 ∨ j = 1 ∨ j = 2 ∨ j = 3 := by omega
    rcases hc with rfl | rfl | rfl | rfl
    · obtain ⟨x, hq⟩ := hx4 0 (by decide)
      have h9 := hall 0 _ rfl
      rw [hq] at h9
      obtain ⟨t, ht9, -, -⟩ := DataW.trod_int (k := .i64) Tryd.underlying3 h9
      exact ⟨t, by rw [← e1]; exact ht9⟩
    · obtain ⟨x, hq⟩ := hx4 1 (by decide)
      have h9 := hall 1 _ rfl
      rw [hq] at h9
      obtain ⟨t, ht9, -, -⟩ := DataW.trod_int (k := .i64) Tryd.underlying2 h9
      exact ⟨t, by rw [← e2]; exact ht9⟩
    · obtain ⟨x, hq⟩ := hx4 2 (by decide)
      have h9 := hall 2 _ rfl
      rw [hq] at h9
      obtain ⟨t, ht9, -, -⟩ := DataW.trod_int (k := .i64) Tryd.underlying2 h9
      exact ⟨t, by rw [← e2]; exact ht9⟩
    · obtain ⟨x, hq⟩ := hx4 3 (by decide)
      have h9 := hall 3 _ rfl
      rw [hq] at h9
      obtain ⟨t, ht9, -, -⟩ := DataW.trod_int (k := .i64) Tryd.underlying2 h9
      exact ⟨t, by rw [← e2]; exact ht9⟩
  have S : ∀ j, 4 ≤ j → j < 6 → ∃ s : ByteArray, ([c0, c1, c2, c3, c4, c5].drop j).take 1 = [.string s] := by
    intro j hj1 hj2
    have hc : j = 4 ∨ j = 5 := by omega
    rcases hc with rfl | rfl
    · obtain ⟨x, hq⟩ := hx4 4 (by decide)
      have h9 := hall 4 _ rfl
      rw [hq] at h9
      obtain ⟨s, hs, -, -⟩ := DataW.trod_string Tryd.underlying9 h9
      exact ⟨s, by rw [← e3]; exact hs⟩
    · obtain ⟨x, hq⟩ := hx4 5 (by decide)
      have h9 := hall 5 _ rfl
      rw [hq] at h9
      obtain ⟨s, hs, -, -⟩ := DataW.trod_string Tryd.underlying9 h9
      exact ⟨s, by rw [← e3]; exact hs⟩
  obtain ⟨k, i0⟩ := I 0 (by decide)
  obtain ⟨t, i1⟩ := I 1 (by decide)
  obtain ⟨a, i2⟩ := I 2 (by decide)
  obtain ⟨b, i3⟩ := I 3 (by decide)
  obtain ⟨nm, i4⟩ := S 4 (by decide) (by decide)
  obtain ⟨ot, i5⟩ := S 5 (by decide) (by decide)
  simp at i0 i1 i2 i3 i4 i5
  subst i0 i1 i2 i3 i4 i5
  exact ⟨k, t, a, b, nm, ot, rfl⟩
end
end Go.Proofs.YtfepehjbcmkdjaaDoor

/-
  passport.Fits: how many points and pads fit two messages with their tags.
-/
set_option linter.unusedSimpArgs false
set_option linter.unusedVariables false
namespace Go.Proofs.YtfepehjbcmkdjaaDoor
open Go.RowKit

/-- Message a's tag less d is b's. -/
def hitp (p b : Nat) (m o : List Nat) (d : Int) (x : Nat) : Bool := decide (((dig p b x o : Int) - dig p b x m + d) % p = 0)
theorem dig_ltp {p : Nat} (hp : 0 < p) (b x : Nat) (m : List Nat) : dig p b x m < p := horner_lt hp x _
def fitsP (P b : Nat) (m k : List Nat) (tag forged : Nat) : Int × Int :=
  if 1000 < m.length ∨ 1000 < k.length then (0, 7) else if P ≤ tag ∨ P ≤ forged then (0, 3) else (((rts (hitp P b m k (tag - forged)) (P - 1)).length : Nat), 0)
def fitsR (n : Int) (m k : List Nat) (tag forged : Nat) : Int × Int := match fi n with
  | none => (0, 2)
  | some i => if 2 ≤ i then (0, 2) else fitsP (prim i) (i + 1) m k tag forged
theorem rts_more (f : Nat → Bool) (k : Nat) : (rts f (k + 1)).length = (rts f k).length + (if f (k + 1) then 1 else 0) := by
  show (if f (k + 1) = true then (((k : Nat) : Int) + 1) :: rts f k else rts f k).length = _
  cases f (k + 1) <;> simp
theorem rts_le (f : Nat → Bool) : ∀ k, (rts f k).length ≤ k
  | 0 => by simp [rts]
  | k + 1 => by rw [rts_more]; have := rts_le f k; split <;> omega
theorem fit_eq {P D E t g : Nat} (hP : P < 2147483648) (hD : D < P) (hE : E < P) (ht : t < P) (hg : g < P) :
    ((IntKind.u64.wrap ((E : Int) + t)).tmod P = (IntKind.u64.wrap ((D : Int) + g)).tmod P) ↔ ((E : Int) - D + ((t : Int) - g)) % P = 0 := by
  rw [Go.IntWalk.u64_in _ ⟨by omega, by omega⟩, Go.IntWalk.u64_in _ ⟨by omega, by omega⟩, Int.tmod_eq_emod_of_nonneg (by omega), Int.tmod_eq_emod_of_nonneg (by omega)]
  rw [show ((E : Int) - D + ((t : Int) - g)) = ((E : Int) + t) - ((D : Int) + g) by omega]
  exact Int.emod_eq_emod_iff_emod_sub_eq_zero
theorem getElem?_none_of {i : Nat} (h : i < 2) : prim i = 257 ∨ prim i = 65537 := by
  have : i = 0 ∨ i = 1 := by omega
  rcases this with rfl | rfl
  · exact Or.inl rfl
  · exact Or.inr rfl

/-- What fieldOf hands back. -/
def FieldC (P b : Nat) (n : Int) (W : World) : Prop := Calls Tryd.prog 21 #[.int .i64 n] W fun e w' => ∃ B off, e = .returned (.pointer (some ⟨B, off, none⟩)) ∧ W.heap.size ≤ B ∧ B < w'.heap.size ∧
  w'.cell? ⟨B, off, none⟩ = some (.int .u64 P) ∧ w'.cell? ⟨B, off + 1, none⟩ = some (.int .i64 b) ∧ Below W.heap.size W w'
def WStep (w : World) : Type := { W : World // Below w.heap.size w W }
instance (w : World) : Nonempty (WStep w) := ⟨⟨w, Below.refl _ _⟩⟩
def StepC (w : World) (W : World) : Prop := ∃ s : WStep w, W = s.1
theorem wp_region_step {P : Program} {id : Nat} {Q : Exit → Act → World → Prop} {a : Act} {w : World} {l : List Oper} (hm : P.follows .mixedOrders = true) (hB : Region.lexB .any l.toArray = true)
    (h : wpQuiet P l.toArray (fun W => ∃ s : WStep w, W = s.1) (fun a' => ∀ w', (∃ s : WStep w, w' = s.1) → Q .normal a' w') l a) : (Code.region id l.toArray true).wp P Q a w :=
  wp_region_quiet (C := fun W => ∃ s : WStep w, W = s.1) hm hB ⟨⟨w.drew, (Below.refl _ _).drew⟩, rfl⟩ (by simpa using h)

set_option maxHeartbeats 2000000 in
set_option maxRecDepth 20000 in
theorem Fits_in (n : Int) (hn : n = 0 ∨ n = 1) (P b : Nat) (hP : 257 ≤ P ∧ P < 2147483648) (hb1 : 1 ≤ b) (hb3 : b ≤ 3) (CF : Hid (∀ W, FieldC P b n W)) (a o : Option Addr) (c d : Nat) (m k : List Nat) (tag forged : Nat) (w : World) (ht : tag < 18446744073709551616) (hf : forged < 18446744073709551616) (hm : Byt m) (hk : Byt k) (hlm : m.length ≤ 2000) (hlk : k.length ≤ 2000) (HA : Hid (BytV a m w)) (HB : Hid (BytV o k w)) :
    ∀ r : Int × Int, r = fitsP P b m k tag forged →
    Calls Tryd.prog 12 #[.int .i64 n, .slice a m.length c, .int .u64 tag, .slice o k.length d, .int .u64 forged] w fun e w' => e = .returned (.tuple #[.int .i64 r.1, .int .i64 r.2]) ∧ Below w.heap.size w w' := by
  intro r hr
  unfold fitsP at hr
  by_cases hl : 1000 < m.length ∨ 1000 < k.length
  · rw [if_pos hl] at hr
    subst hr
    have hl2 : (m.length < k.length ∧ 1000 < (k.length : Int)) ∨ (¬ m.length < k.length ∧ 1000 < (m.length : Int)) := by omega
    clear hl
    generalize m.length = L at *
    generalize k.length = M at *
    rcases hl2 with ⟨h1, h2⟩ | ⟨h1, h2⟩ <;> rcases hn with rfl | rfl
    all_goals
      go_enter Tryd.func12, Tryd.ntmps12
      go_wp2_with fail
      exact bodyPost_ret (v := .tuple #[.int .i64 0, .int .i64 7]) (by simp only [results, Tryd.results12]; go_simp) rfl ⟨rfl, (by repeat' (first | exact Below.refl _ _ | assumption | apply bDrewN | apply bDrew | apply bAlloc | (refine bSet ?_ ?_ _) | (refine bStep ?_ (by assumption)) | omega | (simp <;> omega)))⟩
  · rw [if_neg hl] at hr
    have hl2 : (m.length < k.length ∧ (k.length : Int) ≤ 1000) ∨ (¬ m.length < k.length ∧ (m.length : Int) ≤ 1000) := by omega
    clear hl
    by_cases hp : P ≤ tag ∨ P ≤ forged
    · rw [if_pos hp] at hr
      subst hr
      have hp2 : (tag < forged ∧ (P : Int) ≤ forged) ∨ (¬ tag < forged ∧ (P : Int) ≤ tag) := by omega
      clear hp
      generalize m.length = L at *
      generalize k.length = M at *
      rcases hl2 with ⟨h1, h2⟩ | ⟨h1, h2⟩ <;> rcases hp2 with ⟨h3, h4⟩ | ⟨h3, h4⟩ <;> rcases hn with rfl | rfl
      all_goals
        go_enter Tryd.func12, Tryd.ntmps12
        go_wp2_with (go_at_call 21; refine (CF.out _).mono ?_; rintro e w1 ⟨B, off, rfl, hB1, hB2, hc1, hc2, hb⟩)
        exact bodyPost_ret (v := .tuple #[.int .i64 0, .int .i64 3]) (by simp only [results, Tryd.results12]; go_simp) rfl ⟨rfl, (by repeat' (first | exact Below.refl _ _ | assumption | apply bDrewN | apply bDrew | apply bAlloc | (refine bSet ?_ ?_ _) | (refine bStep ?_ (by assumption)) | omega | (simp <;> omega)))⟩
    · rw [if_neg hp] at hr
      have hp1 : tag < P := by omega
      have hp2 : forged < P := by omega
      have hmx : (if m.length < k.length then (k.length : Int) else m.length) ≤ 1000 := by split <;> omega
      have hmy : (if tag < forged then (forged : Int) else tag) < P := by split <;> omega
      clear hl2 hp
      have CD : Hid (∀ W x B off, 1 ≤ x → x < P → B < W.heap.size → W.cell? ⟨B, off, none⟩ = some (.int .u64 P) → W.cell? ⟨B, off + 1, none⟩ = some (.int .i64 b) → BytV a m W →
          Calls Tryd.prog 22 #[.pointer (some ⟨B, off, none⟩), .int .u64 (x : Nat), .slice a m.length c] W fun e w' => e = .returned (.int .u64 (dig P b x m)) ∧ Below W.heap.size W w') :=
        fun W x B off _ hx hB h1 h2 hA => digest_any P b x B off c a m W (by omega) hP.2 (by omega) hb1 hb3 hm hlm hB h1 h2 hA
      have CE : Hid (∀ W x B off, 1 ≤ x → x < P → B < W.heap.size → W.cell? ⟨B, off, none⟩ = some (.int .u64 P) → W.cell? ⟨B, off + 1, none⟩ = some (.int .i64 b) → BytV o k W →
          Calls Tryd.prog 22 #[.pointer (some ⟨B, off, none⟩), .int .u64 (x : Nat), .slice o k.length d] W fun e w' => e = .returned (.int .u64 (dig P b x k)) ∧ Below W.heap.size W w') :=
        fun W x B off _ hx hB h1 h2 hA => digest_any P b x B off d o k W (by omega) hP.2 (by omega) hb1 hb3 hk hlk hB h1 h2 hA
      have hst := Lib.hid (fun j => rts_more (hitp P b m k (tag - forged)) j)
      have hle := Lib.hid (fun j => rts_le (hitp P b m k (tag - forged)) j)
      have hhit : Hid (∀ x, (hitp P b m k (tag - forged) x = true) ↔ (IntKind.u64.wrap ((dig P b x k : Int) + tag)).tmod P = (IntKind.u64.wrap ((dig P b x m : Int) + forged)).tmod P) := fun x => by
        unfold hitp
        rw [decide_eq_true_iff]
        exact (fit_eq hP.2 (dig_ltp (by omega) b x m) (dig_ltp (by omega) b x k) hp1 hp2).symm
      have hPz : P ≠ 0 := by omega
      generalize hF : hitp P b m k (tag - forged) = F at *
      clear hF
      rcases hn with rfl | rfl
      all_goals
        go_enter Tryd.func12, Tryd.ntmps12
        go_wp2_with (go_at_call 21; refine (CF.out _).mono ?_; rintro e w1 ⟨B, off, rfl, hB1, hB2, hc1, hc2, hb⟩)
      all_goals
        go_loopw [13, 14] (fun v x wr => ∃ j : Nat, j ≤ P - 1 ∧ x = .int .u64 ((j : Int) + 1) ∧ v = .int .i64 ((rts F j).length : Nat) ∧ Below w1.heap.size w1 wr) (fun _ x _ => P - (intOf x).toNat)
        case atStart => exact ⟨0, by omega, by simp, by simp [rts], Below.refl _ _⟩
        case round =>
          obtain ⟨j, hj, rfl, rfl, kB⟩ := hrel
          have hcP := (kB.cell (p := ⟨B, off, none⟩) hB2).trans hc1
          by_cases hlt : j < P - 1
          · have hx : (j : Int) + 1 = ((j + 1 : Nat) : Int) := by omega
            rw [hx]
            clear hx
            have HR := Lib.hid hr
            clear hr
            have hs := hst.out j
            have hh := hhit.out (j + 1)
            have hle1 := hle.out j
            have C1 := Lib.hid (fun W h1 h2 h3 => CD.out W (j + 1) B off (by omega) (by omega) h1 h2 h3)
            have C2 := Lib.hid (fun W h1 h2 h3 => CE.out W (j + 1) B off (by omega) (by omega) h1 h2 h3)
            have hk1 : j + 1 ≤ P - 1 := by omega
            have hk2 : ((j + 1 : Nat) : Int) < P := by omega
            have HJ := Lib.hid (show ((j + 1 : Nat) : Int) = (j : Int) + 1 by omega)
            generalize hN : (rts F j).length = N at *
            generalize hN2 : (rts F (j + 1)).length = N2 at *
            have HN2 := Lib.hid hN2
            clear hN hN2
            generalize dig P b (j + 1) m = p at *
            generalize dig P b (j + 1) k = q at *
            generalize F (j + 1) = bb at *
            generalize j + 1 = j1 at *
            have HS := Lib.hid hs
            have HH := Lib.hid hh
            clear hs hh
            go_wp2_with fail
            have hcS : ∀ s : WStep wr, s.1.cell? ⟨B, off, none⟩ = some (.int .u64 P) := fun s => (s.2.cell (p := ⟨B, off, none⟩) (by have := kB.size; show B < _; omega)).trans hcP
            have hbz : B < wr.heap.size := by have := kB.size; omega
            have hcQ := (kB.cell (p := ⟨B, off + 1, none⟩) hB2).trans hc2
            have HA2 := Lib.hid ((HA.out.step hb).step kB)
            have HB2 := Lib.hid ((HB.out.step hb).step kB)
            have CC1 : ∀ s : WStep wr, Calls Tryd.prog 22 #[.pointer (some ⟨B, off, none⟩), .int .u64 (j1 : Nat), .slice a m.length c] s.1 fun e w' => e = .returned (.int .u64 p) ∧ ∃ t : WStep wr, w' = t.1 := fun s =>
              (C1.out s.1 (Nat.lt_of_lt_of_le hbz s.2.size) (hcS s) ((s.2.cell (p := ⟨B, off + 1, none⟩) hbz).trans hcQ) (HA2.out.step s.2)).mono fun e w' h => ⟨h.1, ⟨w', bStep s.2 h.2⟩, rfl⟩
            have CC2 : ∀ s : WStep wr, Calls Tryd.prog 22 #[.pointer (some ⟨B, off, none⟩), .int .u64 (j1 : Nat), .slice o k.length d] s.1 fun e w' => e = .returned (.int .u64 q) ∧ ∃ t : WStep wr, w' = t.1 := fun s =>
              (C2.out s.1 (Nat.lt_of_lt_of_le hbz s.2.size) (hcS s) ((s.2.cell (p := ⟨B, off + 1, none⟩) hbz).trans hcQ) (HB2.out.step s.2)).mono fun e w' h => ⟨h.1, ⟨w', bStep s.2 h.2⟩, rfl⟩
            have CX := Lib.hid CC1
            have CY := Lib.hid CC2
            clear CC1 CC2
            refine wp_region_step (by kernel_rfl) (by kernel_rfl) ?_
            repeat (quiet_step (first | (with_reducible exact CX.out _) | (with_reducible exact CY.out _)))
            refine wpQuiet_nil ?_
            intro _ hw'
            obtain ⟨⟨W2, hW2⟩, hw''⟩ := hw'
            dsimp only at hw''
            subst hw''
            go_wp2_with fail
            · rename_i hq
              have hb5 : bb = true := HH.out.2 (by simpa using hq)
              have hs5 := HS.out
              rw [hb5] at hs5
              refine ⟨⟨j1, hk1, rfl, ?_, bStep kB hW2⟩, by simp [intOf]; omega⟩
              rw [HN2.out, hs5]
              first | rfl | (push_cast; rfl)
            · rename_i hq
              have hb5 : bb = false := by
                cases bb
                · rfl
                · have := HH.out.1 rfl
                  rw [this] at hq
                  simp at hq
              have hs5 := HS.out
              rw [hb5] at hs5
              refine ⟨⟨j1, hk1, rfl, ?_, bStep kB hW2⟩, by simp [intOf]; omega⟩
              rw [HN2.out, hs5]
              rfl
          · have hj2 : j = P - 1 := by omega
            have hx : (j : Int) + 1 = (P : Int) := by omega
            rw [hx, hj2]
            have HR := Lib.hid hr
            clear hr
            clear hx hst hle hhit CD CE hj2 hj hlt
            generalize (rts F (P - 1)).length = N at *
            go_wp2_with fail
            exact bodyPost_ret (v := .tuple #[.int .i64 (N : Nat), .int .i64 0]) (by simp only [results, Tryd.results12]; go_simp) rfl ⟨by rw [HR.out], bStep hb kB⟩
set_option maxHeartbeats 2000000 in
set_option maxRecDepth 20000 in
theorem Fits_any (n : Int) (a o : Option Addr) (c d : Nat) (m k : List Nat) (tag forged : Nat) (w : World) (ht : tag < 18446744073709551616) (hf : forged < 18446744073709551616) (hm : Byt m) (hk : Byt k) (hlm : m.length ≤ 2000) (hlk : k.length ≤ 2000) (hA : BytV a m w) (hB : BytV o k w) :
    Calls Tryd.prog 12 #[.int .i64 n, .slice a m.length c, .int .u64 tag, .slice o k.length d, .int .u64 forged] w fun e w' => e = .returned (.tuple #[.int .i64 (fitsR n m k tag forged).1, .int .i64 (fitsR n m k tag forged).2]) ∧ Below w.heap.size w w' := by
  by_cases hn : n = 0 ∨ n = 1
  · obtain ⟨i, hi, he, hfi⟩ : ∃ i : Nat, i < 2 ∧ n = i ∧ fi n = some i := by
      rcases fi_cases n with ⟨h1, h2⟩ | ⟨i, hi, h1, h2⟩
      · omega
      · exact ⟨i, by omega, h1, h2⟩
    have e : fitsR n m k tag forged = fitsP (prim i) (i + 1) m k tag forged := by
      unfold fitsR
      rw [hfi]
      dsimp only
      rw [if_neg (show ¬ 2 ≤ i by omega)]
    exact Fits_in n hn (prim i) (i + 1) (prim_bd i) (by omega) (by omega) (by subst he; exact fun W => fieldOf_some i (by omega) W) a o c d m k tag forged w ht hf hm hk hlm hlk hA hB _ e
  · have e : fitsR n m k tag forged = (0, 2) := by
      unfold fitsR
      rcases fi_cases n with ⟨h1, h2⟩ | ⟨i, hi, rfl, h2⟩
      · rw [h2]
      · rw [h2]
        dsimp only
        rw [if_pos (by omega)]
    rw [e]
    have h0 : (n != 0) = true := by simp; omega
    have h1 : (n != 1) = true := by simp; omega
    clear hA hB hn e
    generalize m.length = L at *
    generalize k.length = M at *
    go_enter Tryd.func12, Tryd.ntmps12
    go_wp2_with fail
    exact bodyPost_ret (v := .tuple #[.int .i64 0, .int .i64 2]) (by simp only [results, Tryd.results12]; go_simp) rfl ⟨rfl, (by repeat' (first | exact Below.refl _ _ | assumption | apply bDrewN | apply bDrew | apply bAlloc | (refine bSet ?_ ?_ _) | (refine bStep ?_ (by assumption)) | omega | (simp <;> omega)))⟩
end Go.Proofs.YtfepehjbcmkdjaaDoor

/-
  PassportApart: the walk.
-/
set_option linter.unusedSimpArgs false
set_option linter.unusedVariables false
namespace Go.Proofs.YtfepehjbcmkdjaaDoor
open Sx Go.RowKit
def shB (nm ot : ByteArray) : Bool := decide (nm.size ≤ 100 ∧ ot.size ≤ 100)
set_option maxRecDepth 20000 in
theorem short_any (k t a b : Int) (nm ot : ByteArray) (w : World) :
    Calls Tryd.prog 18 #[.agg #[.int .i64 k, .int .i64 t, .int .i64 a, .int .i64 b, .string nm, .string ot]] w fun e w' => e = .returned (.bool (shB nm ot)) ∧ Below w.heap.size w w' := by
  unfold shB
  by_cases h1 : nm.size ≤ 100
  · by_cases h2 : ot.size ≤ 100
    · rw [decide_eq_true ⟨h1, h2⟩]
      have h3 : (nm.size : Int) ≤ 100 := by omega
      have h4 : (ot.size : Int) ≤ 100 := by omega
      clear h1 h2
      go_enter Tryd.func18, Tryd.ntmps18
      go_wp2_with fail
      go_ret
      exact ⟨rfl, (by repeat' (first | exact Below.refl _ _ | assumption | apply bDrewN | apply bDrew | apply bAlloc | (refine bSet ?_ ?_ _) | (refine bStep ?_ (by assumption)) | omega | (simp <;> omega)))⟩
    · rw [decide_eq_false (fun h => h2 h.2)]
      have h3 : (nm.size : Int) ≤ 100 := by omega
      have h4 : ¬ (ot.size : Int) ≤ 100 := by omega
      have h5 : 100 < (ot.size : Int) := by omega
      clear h1 h2
      go_enter Tryd.func18, Tryd.ntmps18
      go_wp2_with fail
      go_ret
      exact ⟨rfl, (by repeat' (first | exact Below.refl _ _ | assumption | apply bDrewN | apply bDrew | apply bAlloc | (refine bSet ?_ ?_ _) | (refine bStep ?_ (by assumption)) | omega | (simp <;> omega)))⟩
  · rw [decide_eq_false (fun h => h1 h.1)]
    have h3 : ¬ (nm.size : Int) ≤ 100 := by omega
    have h5 : 100 < (nm.size : Int) := by omega
    clear h1
    go_enter Tryd.func18, Tryd.ntmps18
    go_wp2_with fail
    go_ret
    exact ⟨rfl, (by repeat' (first | exact Below.refl _ _ | assumption | apply bDrewN | apply bDrew | apply bAlloc | (refine bSet ?_ ?_ _) | (refine bStep ?_ (by assumption)) | omega | (simp <;> omega)))⟩
/-- An event's box. -/
def EvB (B : Nat) (k t a b : Int) (nm ot : ByteArray) (W : World) : Prop := W.cell? ⟨B, 0, none⟩ = some (.int .i64 k) ∧ W.cell? ⟨B, 1, none⟩ = some (.int .i64 t) ∧ W.cell? ⟨B, 2, none⟩ = some (.int .i64 a) ∧ W.cell? ⟨B, 3, none⟩ = some (.int .i64 b) ∧ W.cell? ⟨B, 4, none⟩ = some (.string nm) ∧ W.cell? ⟨B, 5, none⟩ = some (.string ot)
theorem EvB.step {B : Nat} {k t a b : Int} {nm ot : ByteArray} {W w2 : World} (h : EvB B k t a b nm ot W) (hB : B < W.heap.size) (hb : Below W.heap.size W w2) : EvB B k t a b nm ot w2 := by
  obtain ⟨h0, h1, h2, h3, h4, h5⟩ := h
  have q : ∀ o, w2.cell? ⟨B, o, none⟩ = W.cell? ⟨B, o, none⟩ := fun o => hb.cell (p := ⟨B, o, none⟩) hB
  exact ⟨(q _).trans h0, (q _).trans h1, (q _).trans h2, (q _).trans h3, (q _).trans h4, (q _).trans h5⟩
def evb (k t a b : Int) (nm ot : ByteArray) : Obj := .cells #[.int .i64 k, .int .i64 t, .int .i64 a, .int .i64 b, .string nm, .string ot] 37
theorem evb_at {k t a b : Int} {nm ot : ByteArray} {W : World} : EvB W.heap.size k t a b nm ot (W.alloc (evb k t a b nm ot)) := by
  unfold EvB evb; refine ⟨?_, ?_, ?_, ?_, ?_, ?_⟩ <;> go_simp
theorem evb_lt {k t a b : Int} {nm ot : ByteArray} {W : World} : W.heap.size < (W.alloc (evb k t a b nm ot)).heap.size := by simp
theorem ba_inj {a b : ByteArray} (h : a.data.toList = b.data.toList) : a = b := by
  obtain ⟨⟨x⟩⟩ := a
  obtain ⟨⟨y⟩⟩ := b
  have h' : x = y := h
  rw [h']
theorem ba_nl {a b : ByteArray} (h : ¬ a = b) : ¬ a.toList = b.toList := fun e => h (ba_inj (by rwa [Lib.toList_data, Lib.toList_data] at e))
set_option maxHeartbeats 4000000 in
set_option maxRecDepth 20000 in
/-- What Bytes and Text hand back for an event with short names. -/
theorem Apart_ok (ka ta aa ba : Int) (na oa : ByteArray) (kb tb ab bb : Int) (nb ob : ByteArray) (w : World) (hG : Glob0 w) (h1 : na.size ≤ 100 ∧ oa.size ≤ 100) (h2 : nb.size ≤ 100 ∧ ob.size ≤ 100) (ha : okE ka ta aa ba na oa = true) (hb : okE kb tb ab bb nb ob = true) :
    Calls Tryd.prog 7 #[.agg #[.int .i64 ka, .int .i64 ta, .int .i64 aa, .int .i64 ba, .string na, .string oa], .agg #[.int .i64 kb, .int .i64 tb, .int .i64 ab, .int .i64 bb, .string nb, .string ob]] w fun e w' => e = .returned (.bool true) ∧ Below w.heap.size w w' := by
  have CW := Lib.hid (fun W hG => works_any W hG)
  have SA1 := Lib.hid (fun W => short_any ka ta aa ba na oa W)
  have SA2 := Lib.hid (fun W => short_any kb tb ab bb nb ob W)
  rw [show shB na oa = true from decide_eq_true h1] at SA1
  rw [show shB nb ob = true from decide_eq_true h2] at SA2
  have B1 := Lib.hid (fun W hG => Bytes_ok ka ta aa ba na oa W hG h1.1 h1.2 ha)
  have B2 := Lib.hid (fun W hG => Bytes_ok kb tb ab bb nb ob W hG h2.1 h2.2 hb)
  have T1 := Lib.hid (fun W hG => Text_ok ka ta aa ba na oa W hG ha)
  have T2 := Lib.hid (fun W hG => Text_ok kb tb ab bb nb ob W hG hb)
  have E1 := Lib.hid ((evb_at (k := ka) (t := ta) (a := aa) (b := ba) (nm := na) (ot := oa) (W := w)).step evb_lt (bAl'' (o := evb kb tb ab bb nb ob)))
  have E2 := Lib.hid (evb_at (k := kb) (t := tb) (a := ab) (b := bb) (nm := nb) (ot := ob) (W := w.alloc (evb ka ta aa ba na oa)))
  have HG0 := Lib.hid (gstep hG (bAlloc (bAlloc (Below.refl w.heap.size w) (evb ka ta aa ba na oa)) (evb kb tb ab bb nb ob)))
  have K := Below.refl ((w.alloc (evb ka ta aa ba na oa)).alloc (evb kb tb ab bb nb ob)).heap.size ((w.alloc (evb ka ta aa ba na oa)).alloc (evb kb tb ab bb nb ob))
  have L1 : w.heap.size < ((w.alloc (evb ka ta aa ba na oa)).alloc (evb kb tb ab bb nb ob)).heap.size := by simp; omega
  have L2 : (w.alloc (evb ka ta aa ba na oa)).heap.size < ((w.alloc (evb ka ta aa ba na oa)).alloc (evb kb tb ab bb nb ob)).heap.size := evb_lt
  have z2 : (w.alloc (evb ka ta aa ba na oa)).heap.size = w.heap.size + 1 := by simp
  rw [z2] at E2 L2
  unfold evb at E1 E2 HG0 K L1 L2
  have H1 := Lib.hid L1
  have H2 := Lib.hid L2
  have O1 := okE_ev ha
  have O2 := okE_ev hb
  have HT := Lib.hid (And.intro (bytesE_byt (e := evL ka ta aa ba na oa) O1.1.k.2 (by have := h1.1; rw [Lib.size_eq] at this; exact this) (by have := h1.2; rw [Lib.size_eq] at this; exact this)) (bytesE_byt (e := evL kb tb ab bb nb ob) O2.1.k.2 (by have := h2.1; rw [Lib.size_eq] at this; exact this) (by have := h2.2; rw [Lib.size_eq] at this; exact this)))
  have HI := Lib.hid (And.intro O1.1 O2.1)
  clear hG h1 h2 ha hb L1 L2 z2 O1 O2
  go_enter Tryd.func7, Tryd.ntmps7
  go_wp2_with (first
    | (go_at_call 18; (first | (with_reducible refine (SA1.out _).mono ?_) | (with_reducible refine (SA2.out _).mono ?_)); rintro e w1 ⟨rfl, hb1⟩; replace K := bStep (by repeat' (first | exact K | apply bDrewN | apply bDrew)) hb1; obtain ⟨f0, f1, f2, f3, f4, f5⟩ := E1.out.step H1.out K; obtain ⟨g0, g1, g2, g3, g4, g5⟩ := E2.out.step H2.out K)
    | (go_at_call 19; (with_reducible refine (B1.out _ (gstep HG0.out (by repeat' (first | exact K | apply bDrewN | apply bDrew)))).mono ?_); rintro e w1 ⟨p1, c1, rfl, V1, hb1⟩; replace V1 := Lib.hid V1; replace K := bStep (by repeat' (first | exact K | apply bDrewN | apply bDrew)) hb1; obtain ⟨f0, f1, f2, f3, f4, f5⟩ := E1.out.step H1.out K; obtain ⟨g0, g1, g2, g3, g4, g5⟩ := E2.out.step H2.out K)
    | (go_at_call 19; (with_reducible refine (B2.out _ (gstep HG0.out (by repeat' (first | exact K | apply bDrewN | apply bDrew)))).mono ?_); rintro e w2 ⟨p2, c2, rfl, V2, hb2⟩; replace V2 := Lib.hid V2; replace V1 := Lib.hid (V1.out.step (bStep (by repeat' (first | exact Below.refl _ _ | apply bDrewN | apply bDrew)) hb2)); replace K := bStep (by repeat' (first | exact K | apply bDrewN | apply bDrew)) hb2; obtain ⟨f0, f1, f2, f3, f4, f5⟩ := E1.out.step H1.out K; obtain ⟨g0, g1, g2, g3, g4, g5⟩ := E2.out.step H2.out K)
    | (go_at_call 20; (first | (with_reducible refine (T1.out _ (gstep HG0.out (by repeat' (first | exact K | apply bDrewN | apply bDrew)))).mono ?_) | (with_reducible refine (T2.out _ (gstep HG0.out (by repeat' (first | exact K | apply bDrewN | apply bDrew)))).mono ?_)); rintro e w3 ⟨rfl, hb3⟩; replace V1 := Lib.hid (V1.out.step (bStep (by repeat' (first | exact Below.refl _ _ | apply bDrewN | apply bDrew)) hb3)); replace V2 := Lib.hid (V2.out.step (bStep (by repeat' (first | exact Below.refl _ _ | apply bDrewN | apply bDrew)) hb3)); replace K := bStep (by repeat' (first | exact K | apply bDrewN | apply bDrew)) hb3; obtain ⟨f0, f1, f2, f3, f4, f5⟩ := E1.out.step H1.out K; obtain ⟨g0, g1, g2, g3, g4, g5⟩ := E2.out.step H2.out K)
    | fail)
  have Y1 := Lib.hid (show EvB w.heap.size ka ta aa ba na oa w3 from ⟨f0, f1, f2, f3, f4, f5⟩)
  have Y2 := Lib.hid (show EvB (w.heap.size + 1) kb tb ab bb nb ob w3 from ⟨g0, g1, g2, g3, g4, g5⟩)
  have Z1 : w.heap.size < w3.heap.size := Nat.lt_of_lt_of_le H1.out K.size
  have Z2 : w.heap.size + 1 < w3.heap.size := Nat.lt_of_lt_of_le H2.out K.size
  have HK := Lib.hid (bStep (bAlloc (bAlloc (Below.refl w.heap.size w) _) _) K)
  have HG3 := Lib.hid (gstep HG0.out K)
  clear f0 f1 f2 f3 f4 f5 g0 g1 g2 g3 g4 g5 SA1 SA2 B1 B2 T1 T2 E1 E2 HG0 H1 H2 K
  have QF : ∀ s : WStep w3, EvB w.heap.size ka ta aa ba na oa s.1 := fun s => Y1.out.step Z1 s.2
  have QG : ∀ s : WStep w3, EvB (w.heap.size + 1) kb tb ab bb nb ob s.1 := fun s => Y2.out.step Z2 s.2
  have f0 := fun s => (QF s).1
  have f1 := fun s => (QF s).2.1
  have f2 := fun s => (QF s).2.2.1
  have f3 := fun s => (QF s).2.2.2.1
  have f4 := fun s => (QF s).2.2.2.2.1
  have f5 := fun s => (QF s).2.2.2.2.2
  have g0 := fun s => (QG s).1
  have g1 := fun s => (QG s).2.1
  have g2 := fun s => (QG s).2.2.1
  have g3 := fun s => (QG s).2.2.2.1
  have g4 := fun s => (QG s).2.2.2.2.1
  have g5 := fun s => (QG s).2.2.2.2.2
  clear QF QG Z1 Z2 Y1 Y2
  have CY : Hid (∀ s : WStep w3, Calls Tryd.prog 8 #[] s.1 fun e w' => e = .returned (.bool true) ∧ ∃ t : WStep w3, w' = t.1) := fun s => (CW.out s.1 (gstep HG3.out s.2)).mono fun e w' h => ⟨h.1, ⟨w', bStep s.2 h.2⟩, rfl⟩
  have CX : Hid (∀ s : WStep w3, Calls Tryd.prog 11 #[.slice p1 (bytesE (evL ka ta aa ba na oa)).length c1, .slice p2 (bytesE (evL kb tb ab bb nb ob)).length c2] s.1 fun e w' => e = .returned (.bool (decide (bytesE (evL ka ta aa ba na oa) = bytesE (evL kb tb ab bb nb ob)))) ∧ ∃ t : WStep w3, w' = t.1) := fun s => (same_any p1 p2 c1 c2 _ _ s.1 HT.out.1 HT.out.2 (V1.out.step s.2) (V2.out.step s.2)).mono fun e w' h => ⟨h.1, ⟨w', bStep s.2 h.2⟩, rfl⟩
  clear CW HG3 V1 V2 HT
  by_cases hev : evL ka ta aa ba na oa = evL kb tb ab bb nb ob
  · simp only [evL, Ev.mk.injEq] at hev
    obtain ⟨rfl, rfl, rfl, rfl, e5, e6⟩ := hev
    obtain rfl := ba_inj e5
    obtain rfl := ba_inj e6
    rw [decide_eq_true rfl] at CX
    generalize textE (evL ka ta aa ba na oa) = tA at *
    generalize bytesE (evL ka ta aa ba na oa) = mA at *
    generalize mA.length = lA at *
    clear e5 e6 HI
    refine wp_region_step (by kernel_rfl) (by kernel_rfl) ?_
    repeat (quiet_step (first | (with_reducible exact CX.out _) | (with_reducible exact CY.out _)))
    refine wpQuiet_nil ?_
    intro _ hw'
    obtain ⟨⟨W2, hW2⟩, hw''⟩ := hw'
    dsimp only at hw''
    subst hw''
    go_wp2_with fail
    go_ret
    exact ⟨rfl, bStep HK.out hW2⟩
  · have hm : ¬ bytesE (evL ka ta aa ba na oa) = bytesE (evL kb tb ab bb nb ob) := fun h => hev (bytes_inj HI.out.1 HI.out.2 h)
    have ht : ¬ textE (evL ka ta aa ba na oa) = textE (evL kb tb ab bb nb ob) := fun h => hev (text_inj HI.out.1 HI.out.2 h)
    have hc : ¬ ka = kb ∨ (ka = kb ∧ ¬ ta = tb) ∨ (ka = kb ∧ ta = tb ∧ ¬ aa = ab) ∨ (ka = kb ∧ ta = tb ∧ aa = ab ∧ ¬ ba = bb) ∨ (ka = kb ∧ ta = tb ∧ aa = ab ∧ ba = bb ∧ ¬ na = nb) ∨ (ka = kb ∧ ta = tb ∧ aa = ab ∧ ba = bb ∧ na = nb ∧ ¬ oa = ob) := by
      by_cases e1 : ka = kb
      · by_cases e2 : ta = tb
        · by_cases e3 : aa = ab
          · by_cases e4 : ba = bb
            · by_cases e5 : na = nb
              · by_cases e6 : oa = ob
                · exact absurd (by rw [e1, e2, e3, e4, e5, e6]) hev
                · exact .inr (.inr (.inr (.inr (.inr ⟨e1, e2, e3, e4, e5, e6⟩))))
              · exact .inr (.inr (.inr (.inr (.inl ⟨e1, e2, e3, e4, e5⟩))))
            · exact .inr (.inr (.inr (.inl ⟨e1, e2, e3, e4⟩)))
          · exact .inr (.inr (.inl ⟨e1, e2, e3⟩))
        · exact .inr (.inl ⟨e1, e2⟩)
      · exact .inl e1
    rw [decide_eq_false hm] at CX
    generalize textE (evL ka ta aa ba na oa) = tA at *
    generalize textE (evL kb tb ab bb nb ob) = tB at *
    generalize bytesE (evL ka ta aa ba na oa) = mA at *
    generalize bytesE (evL kb tb ab bb nb ob) = mB at *
    generalize mA.length = lA at *
    generalize mB.length = lB at *
    have ht2 : (!(tA == tB)) = true := by simpa using ht
    clear hm HI hev
    rcases hc with h | ⟨rfl, h⟩ | ⟨rfl, rfl, h⟩ | ⟨rfl, rfl, rfl, h⟩ | ⟨rfl, rfl, rfl, rfl, h⟩ | ⟨rfl, rfl, rfl, rfl, rfl, h⟩
    · have h2 : (ka == kb) = false := by simpa using h
      refine wp_region_step (by kernel_rfl) (by kernel_rfl) ?_
      repeat (quiet_step (first | (with_reducible exact CX.out _) | (with_reducible exact CY.out _)))
      refine wpQuiet_nil ?_
      intro _ hw'
      obtain ⟨⟨W2, hW2⟩, hw''⟩ := hw'
      dsimp only at hw''
      subst hw''
      go_wp2_with fail
      go_ret
      exact ⟨by first | rfl | exact congrArg (fun x => Ending.returned (Value.bool x)) ht2, bStep HK.out hW2⟩
    · have h2 : (ta == tb) = false := by simpa using h
      refine wp_region_step (by kernel_rfl) (by kernel_rfl) ?_
      repeat (quiet_step (first | (with_reducible exact CX.out _) | (with_reducible exact CY.out _)))
      refine wpQuiet_nil ?_
      intro _ hw'
      obtain ⟨⟨W2, hW2⟩, hw''⟩ := hw'
      dsimp only at hw''
      subst hw''
      go_wp2_with fail
      go_ret
      exact ⟨by first | rfl | exact congrArg (fun x => Ending.returned (Value.bool x)) ht2, bStep HK.out hW2⟩
    · have h2 : (aa == ab) = false := by simpa using h
      refine wp_region_step (by kernel_rfl) (by kernel_rfl) ?_
      repeat (quiet_step (first | (with_reducible exact CX.out _) | (with_reducible exact CY.out _)))
      refine wpQuiet_nil ?_
      intro _ hw'
      obtain ⟨⟨W2, hW2⟩, hw''⟩ := hw'
      dsimp only at hw''
      subst hw''
      go_wp2_with fail
      go_ret
      exact ⟨by first | rfl | exact congrArg (fun x => Ending.returned (Value.bool x)) ht2, bStep HK.out hW2⟩
    · have h2 : (ba == bb) = false := by simpa using h
      refine wp_region_step (by kernel_rfl) (by kernel_rfl) ?_
      repeat (quiet_step (first | (with_reducible exact CX.out _) | (with_reducible exact CY.out _)))
      refine wpQuiet_nil ?_
      intro _ hw'
      obtain ⟨⟨W2, hW2⟩, hw''⟩ := hw'
      dsimp only at hw''
      subst hw''
      go_wp2_with fail
      go_ret
      exact ⟨by first | rfl | exact congrArg (fun x => Ending.returned (Value.bool x)) ht2, bStep HK.out hW2⟩
    · have h2 : ¬ na.toList = nb.toList := ba_nl h
      refine wp_region_step (by kernel_rfl) (by kernel_rfl) ?_
      repeat (quiet_step (first | (with_reducible exact CX.out _) | (with_reducible exact CY.out _)))
      refine wpQuiet_nil ?_
      intro _ hw'
      obtain ⟨⟨W2, hW2⟩, hw''⟩ := hw'
      dsimp only at hw''
      subst hw''
      go_wp2_with fail
      go_ret
      exact ⟨by first | rfl | exact congrArg (fun x => Ending.returned (Value.bool x)) ht2, bStep HK.out hW2⟩
    · have h2 : ¬ oa.toList = ob.toList := ba_nl h
      refine wp_region_step (by kernel_rfl) (by kernel_rfl) ?_
      repeat (quiet_step (first | (with_reducible exact CX.out _) | (with_reducible exact CY.out _)))
      refine wpQuiet_nil ?_
      intro _ hw'
      obtain ⟨⟨W2, hW2⟩, hw''⟩ := hw'
      dsimp only at hw''
      subst hw''
      go_wp2_with fail
      go_ret
      exact ⟨by first | rfl | exact congrArg (fun x => Ending.returned (Value.bool x)) ht2, bStep HK.out hW2⟩
end Go.Proofs.YtfepehjbcmkdjaaDoor

/-
  PassportApart: the walk.
-/
set_option linter.unusedSimpArgs false
set_option linter.unusedVariables false
namespace Go.Proofs.YtfepehjbcmkdjaaDoor
open Sx Go.RowKit
theorem Bytes_er (k t a b : Int) (nm ot : ByteArray) (w : World) (hG : Glob0 w) (h1 : nm.size ≤ 100) (h2 : ot.size ≤ 100) :
    Calls Tryd.prog 19 #[.agg #[.int .i64 k, .int .i64 t, .int .i64 a, .int .i64 b, .string nm, .string ot]] w fun e w' => (∃ p n c, e = .returned (.tuple #[.slice p n c, .int .i64 (bif okE k t a b nm ot then 0 else 2)])) ∧ Below w.heap.size w w' := by
  cases h : okE k t a b nm ot
  · exact (Bytes_no k t a b nm ot w hG (by omega) (by omega) h).mono fun e w' q => ⟨⟨none, 0, 0, q.1⟩, q.2⟩
  · exact (Bytes_ok k t a b nm ot w hG h1 h2 h).mono fun e w' q => by
      obtain ⟨p, c, q1, -, q2⟩ := q
      exact ⟨⟨p, _, c, q1⟩, q2⟩
theorem Text_er (k t a b : Int) (nm ot : ByteArray) (w : World) (hG : Glob0 w) (h1 : nm.size ≤ 100) (h2 : ot.size ≤ 100) :
    Calls Tryd.prog 20 #[.agg #[.int .i64 k, .int .i64 t, .int .i64 a, .int .i64 b, .string nm, .string ot]] w fun e w' => (∃ s, e = .returned (.tuple #[.string s, .int .i64 (bif okE k t a b nm ot then 0 else 2)])) ∧ Below w.heap.size w w' := by
  cases h : okE k t a b nm ot
  · exact (Text_no k t a b nm ot w hG (by omega) (by omega) h).mono fun e w' q => ⟨⟨_, q.1⟩, q.2⟩
  · exact (Text_ok k t a b nm ot w hG h).mono fun e w' q => ⟨⟨_, q.1⟩, q.2⟩
set_option maxHeartbeats 4000000 in
set_option maxRecDepth 20000 in
theorem Apart_long1 (ka ta aa ba : Int) (na oa : ByteArray) (kb tb ab bb : Int) (nb ob : ByteArray) (w : World) (hG : Glob0 w) (h1 : shB na oa = false) :
    Calls Tryd.prog 7 #[.agg #[.int .i64 ka, .int .i64 ta, .int .i64 aa, .int .i64 ba, .string na, .string oa], .agg #[.int .i64 kb, .int .i64 tb, .int .i64 ab, .int .i64 bb, .string nb, .string ob]] w fun e w' => e = .returned (.bool true) ∧ Below w.heap.size w w' := by
  have CW := Lib.hid (fun W hG => works_any W hG)
  have SA1 := Lib.hid (fun W => short_any ka ta aa ba na oa W)
  have SA2 := Lib.hid (fun W => short_any kb tb ab bb nb ob W)
  have E1 := Lib.hid ((evb_at (k := ka) (t := ta) (a := aa) (b := ba) (nm := na) (ot := oa) (W := w)).step evb_lt (bAl'' (o := evb kb tb ab bb nb ob)))
  have E2 := Lib.hid (evb_at (k := kb) (t := tb) (a := ab) (b := bb) (nm := nb) (ot := ob) (W := w.alloc (evb ka ta aa ba na oa)))
  have HG0 := Lib.hid (gstep hG (bAlloc (bAlloc (Below.refl w.heap.size w) (evb ka ta aa ba na oa)) (evb kb tb ab bb nb ob)))
  have K := Below.refl ((w.alloc (evb ka ta aa ba na oa)).alloc (evb kb tb ab bb nb ob)).heap.size ((w.alloc (evb ka ta aa ba na oa)).alloc (evb kb tb ab bb nb ob))
  have K0 := Lib.hid (bAlloc (bAlloc (Below.refl w.heap.size w) (evb ka ta aa ba na oa)) (evb kb tb ab bb nb ob))
  have L1 : w.heap.size < ((w.alloc (evb ka ta aa ba na oa)).alloc (evb kb tb ab bb nb ob)).heap.size := by simp; omega
  have L2 : (w.alloc (evb ka ta aa ba na oa)).heap.size < ((w.alloc (evb ka ta aa ba na oa)).alloc (evb kb tb ab bb nb ob)).heap.size := evb_lt
  have z2 : (w.alloc (evb ka ta aa ba na oa)).heap.size = w.heap.size + 1 := by simp
  rw [z2] at E2 L2
  unfold evb at E1 E2 HG0 K K0 L1 L2
  have H1 := Lib.hid L1
  have H2 := Lib.hid L2
  rw [h1] at SA1
  clear hG h1 L1 L2 z2
  go_enter Tryd.func7, Tryd.ntmps7
  go_wp2_with (first
    | (go_at_call 18; (first | (with_reducible refine (SA1.out _).mono ?_) | (with_reducible refine (SA2.out _).mono ?_)); rintro e w1 ⟨rfl, hb1⟩; replace K := bStep (by repeat' (first | exact K | apply bDrewN | apply bDrew)) hb1; obtain ⟨f0, f1, f2, f3, f4, f5⟩ := E1.out.step H1.out K; obtain ⟨g0, g1, g2, g3, g4, g5⟩ := E2.out.step H2.out K)
    | (go_at_call 8; refine (CW.out _ (gstep HG0.out (by repeat' (first | exact K | apply bDrewN | apply bDrew)))).mono ?_; rintro e w1 ⟨rfl, hb1⟩; replace K := bStep (by repeat' (first | exact K | apply bDrewN | apply bDrew)) hb1))
  all_goals (go_ret; exact ⟨rfl, bStep K0.out (by repeat' (first | exact K | apply bDrewN | apply bDrew))⟩)
set_option maxHeartbeats 4000000 in
set_option maxRecDepth 20000 in
theorem Apart_long2 (ka ta aa ba : Int) (na oa : ByteArray) (kb tb ab bb : Int) (nb ob : ByteArray) (w : World) (hG : Glob0 w) (h1 : shB na oa = true) (h2 : shB nb ob = false) :
    Calls Tryd.prog 7 #[.agg #[.int .i64 ka, .int .i64 ta, .int .i64 aa, .int .i64 ba, .string na, .string oa], .agg #[.int .i64 kb, .int .i64 tb, .int .i64 ab, .int .i64 bb, .string nb, .string ob]] w fun e w' => e = .returned (.bool true) ∧ Below w.heap.size w w' := by
  have CW := Lib.hid (fun W hG => works_any W hG)
  have SA1 := Lib.hid (fun W => short_any ka ta aa ba na oa W)
  have SA2 := Lib.hid (fun W => short_any kb tb ab bb nb ob W)
  have E1 := Lib.hid ((evb_at (k := ka) (t := ta) (a := aa) (b := ba) (nm := na) (ot := oa) (W := w)).step evb_lt (bAl'' (o := evb kb tb ab bb nb ob)))
  have E2 := Lib.hid (evb_at (k := kb) (t := tb) (a := ab) (b := bb) (nm := nb) (ot := ob) (W := w.alloc (evb ka ta aa ba na oa)))
  have HG0 := Lib.hid (gstep hG (bAlloc (bAlloc (Below.refl w.heap.size w) (evb ka ta aa ba na oa)) (evb kb tb ab bb nb ob)))
  have K := Below.refl ((w.alloc (evb ka ta aa ba na oa)).alloc (evb kb tb ab bb nb ob)).heap.size ((w.alloc (evb ka ta aa ba na oa)).alloc (evb kb tb ab bb nb ob))
  have K0 := Lib.hid (bAlloc (bAlloc (Below.refl w.heap.size w) (evb ka ta aa ba na oa)) (evb kb tb ab bb nb ob))
  have L1 : w.heap.size < ((w.alloc (evb ka ta aa ba na oa)).alloc (evb kb tb ab bb nb ob)).heap.size := by simp; omega
  have L2 : (w.alloc (evb ka ta aa ba na oa)).heap.size < ((w.alloc (evb ka ta aa ba na oa)).alloc (evb kb tb ab bb nb ob)).heap.size := evb_lt
  have z2 : (w.alloc (evb ka ta aa ba na oa)).heap.size = w.heap.size + 1 := by simp
  rw [z2] at E2 L2
  unfold evb at E1 E2 HG0 K K0 L1 L2
  have H1 := Lib.hid L1
  have H2 := Lib.hid L2
  rw [h1] at SA1
  rw [h2] at SA2
  clear hG h1 h2 L1 L2 z2
  go_enter Tryd.func7, Tryd.ntmps7
  go_wp2_with (first
    | (go_at_call 18; (first | (with_reducible refine (SA1.out _).mono ?_) | (with_reducible refine (SA2.out _).mono ?_)); rintro e w1 ⟨rfl, hb1⟩; replace K := bStep (by repeat' (first | exact K | apply bDrewN | apply bDrew)) hb1; obtain ⟨f0, f1, f2, f3, f4, f5⟩ := E1.out.step H1.out K; obtain ⟨g0, g1, g2, g3, g4, g5⟩ := E2.out.step H2.out K)
    | (go_at_call 8; refine (CW.out _ (gstep HG0.out (by repeat' (first | exact K | apply bDrewN | apply bDrew)))).mono ?_; rintro e w1 ⟨rfl, hb1⟩; replace K := bStep (by repeat' (first | exact K | apply bDrewN | apply bDrew)) hb1))
  all_goals (go_ret; exact ⟨rfl, bStep K0.out (by repeat' (first | exact K | apply bDrewN | apply bDrew))⟩)
set_option maxHeartbeats 4000000 in
set_option maxRecDepth 20000 in
theorem Apart_no (ka ta aa ba : Int) (na oa : ByteArray) (kb tb ab bb : Int) (nb ob : ByteArray) (w : World) (hG : Glob0 w) (h1 : shB na oa = true) (h2 : shB nb ob = true) (h : okE ka ta aa ba na oa = false ∨ okE kb tb ab bb nb ob = false) :
    Calls Tryd.prog 7 #[.agg #[.int .i64 ka, .int .i64 ta, .int .i64 aa, .int .i64 ba, .string na, .string oa], .agg #[.int .i64 kb, .int .i64 tb, .int .i64 ab, .int .i64 bb, .string nb, .string ob]] w fun e w' => e = .returned (.bool true) ∧ Below w.heap.size w w' := by
  have CW := Lib.hid (fun W hG => works_any W hG)
  have SA1 := Lib.hid (fun W => short_any ka ta aa ba na oa W)
  have SA2 := Lib.hid (fun W => short_any kb tb ab bb nb ob W)
  have E1 := Lib.hid ((evb_at (k := ka) (t := ta) (a := aa) (b := ba) (nm := na) (ot := oa) (W := w)).step evb_lt (bAl'' (o := evb kb tb ab bb nb ob)))
  have E2 := Lib.hid (evb_at (k := kb) (t := tb) (a := ab) (b := bb) (nm := nb) (ot := ob) (W := w.alloc (evb ka ta aa ba na oa)))
  have HG0 := Lib.hid (gstep hG (bAlloc (bAlloc (Below.refl w.heap.size w) (evb ka ta aa ba na oa)) (evb kb tb ab bb nb ob)))
  have K := Below.refl ((w.alloc (evb ka ta aa ba na oa)).alloc (evb kb tb ab bb nb ob)).heap.size ((w.alloc (evb ka ta aa ba na oa)).alloc (evb kb tb ab bb nb ob))
  have K0 := Lib.hid (bAlloc (bAlloc (Below.refl w.heap.size w) (evb ka ta aa ba na oa)) (evb kb tb ab bb nb ob))
  have L1 : w.heap.size < ((w.alloc (evb ka ta aa ba na oa)).alloc (evb kb tb ab bb nb ob)).heap.size := by simp; omega
  have L2 : (w.alloc (evb ka ta aa ba na oa)).heap.size < ((w.alloc (evb ka ta aa ba na oa)).alloc (evb kb tb ab bb nb ob)).heap.size := evb_lt
  have z2 : (w.alloc (evb ka ta aa ba na oa)).heap.size = w.heap.size + 1 := by simp
  rw [z2] at E2 L2
  unfold evb at E1 E2 HG0 K K0 L1 L2
  have H1 := Lib.hid L1
  have H2 := Lib.hid L2

  rw [h1] at SA1
  rw [h2] at SA2
  obtain ⟨q1, q2⟩ := of_decide_eq_true h1
  obtain ⟨q3, q4⟩ := of_decide_eq_true h2
  have B1 := Lib.hid (fun W hG => Bytes_er ka ta aa ba na oa W hG q1 q2)
  have B2 := Lib.hid (fun W hG => Bytes_er kb tb ab bb nb ob W hG q3 q4)
  have T1 := Lib.hid (fun W hG => Text_er ka ta aa ba na oa W hG q1 q2)
  have T2 := Lib.hid (fun W hG => Text_er kb tb ab bb nb ob W hG q3 q4)
  generalize okE ka ta aa ba na oa = r at *
  generalize okE kb tb ab bb nb ob = u at *
  clear hG h1 h2 L1 L2 z2 q1 q2 q3 q4
  have hc : (r = false ∧ u = false) ∨ (r = false ∧ u = true) ∨ (r = true ∧ u = false) := by
    cases r <;> cases u <;> simp at h ⊢
  clear h
  rcases hc with ⟨rfl, rfl⟩ | ⟨rfl, rfl⟩ | ⟨rfl, rfl⟩
  all_goals
    simp only [cond_true, cond_false] at B1 B2 T1 T2
    go_enter Tryd.func7, Tryd.ntmps7
    go_wp2_with (first
      | (go_at_call 18; (first | (with_reducible refine (SA1.out _).mono ?_) | (with_reducible refine (SA2.out _).mono ?_)); rintro e w1 ⟨rfl, hb1⟩; replace K := bStep (by repeat' (first | exact K | apply bDrewN | apply bDrew)) hb1; obtain ⟨f0, f1, f2, f3, f4, f5⟩ := E1.out.step H1.out K; obtain ⟨g0, g1, g2, g3, g4, g5⟩ := E2.out.step H2.out K)
      | (go_at_call 19; (first | (with_reducible refine (B1.out _ (gstep HG0.out (by repeat' (first | exact K | apply bDrewN | apply bDrew)))).mono ?_) | (with_reducible refine (B2.out _ (gstep HG0.out (by repeat' (first | exact K | apply bDrewN | apply bDrew)))).mono ?_)); rintro e w1 ⟨⟨p, n, c, rfl⟩, hb1⟩; replace K := bStep (by repeat' (first | exact K | apply bDrewN | apply bDrew)) hb1; obtain ⟨f0, f1, f2, f3, f4, f5⟩ := E1.out.step H1.out K; obtain ⟨g0, g1, g2, g3, g4, g5⟩ := E2.out.step H2.out K)
      | (go_at_call 20; (first | (with_reducible refine (T1.out _ (gstep HG0.out (by repeat' (first | exact K | apply bDrewN | apply bDrew)))).mono ?_) | (with_reducible refine (T2.out _ (gstep HG0.out (by repeat' (first | exact K | apply bDrewN | apply bDrew)))).mono ?_)); rintro e w1 ⟨⟨s, rfl⟩, hb1⟩; replace K := bStep (by repeat' (first | exact K | apply bDrewN | apply bDrew)) hb1; obtain ⟨f0, f1, f2, f3, f4, f5⟩ := E1.out.step H1.out K; obtain ⟨g0, g1, g2, g3, g4, g5⟩ := E2.out.step H2.out K)
      | (go_at_call 8; refine (CW.out _ (gstep HG0.out (by repeat' (first | exact K | apply bDrewN | apply bDrew)))).mono ?_; rintro e w1 ⟨rfl, hb1⟩; replace K := bStep (by repeat' (first | exact K | apply bDrewN | apply bDrew)) hb1))
    all_goals (go_ret; exact ⟨rfl, bStep K0.out (by repeat' (first | exact K | apply bDrewN | apply bDrew))⟩)
theorem PassportApart_walk (ka ta aa ba : Int) (na oa : ByteArray) (kb tb ab bb : Int) (nb ob : ByteArray) (w : World) (hG : Glob0 w) :
    Calls Tryd.prog 7 #[.agg #[.int .i64 ka, .int .i64 ta, .int .i64 aa, .int .i64 ba, .string na, .string oa], .agg #[.int .i64 kb, .int .i64 tb, .int .i64 ab, .int .i64 bb, .string nb, .string ob]] w fun e w' => e = .returned (.bool true) ∧ Below w.heap.size w w' := by
  cases h1 : shB na oa
  · exact Apart_long1 ka ta aa ba na oa kb tb ab bb nb ob w hG h1
  · cases h2 : shB nb ob
    · exact Apart_long2 ka ta aa ba na oa kb tb ab bb nb ob w hG h1 h2
    · cases h3 : okE ka ta aa ba na oa
      · exact Apart_no ka ta aa ba na oa kb tb ab bb nb ob w hG h1 h2 (.inl h3)
      · cases h4 : okE kb tb ab bb nb ob
        · exact Apart_no ka ta aa ba na oa kb tb ab bb nb ob w hG h1 h2 (.inr h4)
        · exact Apart_ok ka ta aa ba na oa kb tb ab bb nb ob w hG (of_decide_eq_true h1) (of_decide_eq_true h2) h3 h4
end Go.Proofs.YtfepehjbcmkdjaaDoor
