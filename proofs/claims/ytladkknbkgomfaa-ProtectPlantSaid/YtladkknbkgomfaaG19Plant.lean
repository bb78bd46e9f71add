/-
  The walk of ProtectPlant.
-/
import Derived.Test.YtladkknbkgomfaaG18Plant
set_option linter.unusedSimpArgs false
set_option linter.unusedVariables false
namespace Go.Proofs.Ytladkknbkgomfaa
open Go.RowKit Mr
theorem actSize : (Try.prog.info? 41).map (·.size) = some 4 := by kernel_rfl
theorem mv_tru {m : Mv} {j : Nat} {u : Value} (h : (truC m.1)[j]? = some u) : (mvC m)[j]? = some u := by
  unfold mvC
  rw [List.getElem?_append_left (List.getElem?_eq_some_iff.1 h).1]; exact h
theorem mv_act {m : Mv} {j : Nat} {u : Value} (h : (actC m.2)[j]? = some u) : (mvC m)[31 + j]? = some u := by
  unfold mvC
  rw [List.getElem?_append_right (by show 31 ≤ 31 + j; omega), show 31 + j - (truC m.1).length = j by show 31 + j - 31 = j; omega]; exact h
/-- Move i lies at b, off. -/
def MvB (b off : Nat) (m : Mv) (W : World) : Prop := ∀ (j : Nat) (u : Value), (mvC m)[j]? = some u → W.cell? ⟨b, off + j, none⟩ = some u
theorem MvB.step {b off : Nat} {m : Mv} {W w2 : World} (h : MvB b off m W) (hb : Below W.heap.size W w2) : MvB b off m w2 := fun j u hj => cell_step (h j u hj) hb
theorem MvB.tru {b off : Nat} {m : Mv} {W : World} (h : MvB b off m W) : W.rangeAt b off (truC m.1) := fun j u hj => h j u (mv_tru hj)
theorem MvB.act {b off : Nat} {m : Mv} {W : World} (h : MvB b off m W) : W.rangeAt b (off + 31) (actC m.2) := fun j u hj => by
  have := h (31 + j) u (mv_act hj)
  rwa [← Nat.add_assoc] at this
set_option maxHeartbeats 40000000 in
set_option maxRecDepth 20000 in
theorem Plant_walk (lag : Int) (l : List Brk) (cB : Nat) (aB : Option Addr) (ml : List Mv) (cM : Nat) (aM : Option Addr) (at_ : Nat) (w : World) (hB : BkAt aB l w) (hM : MvAt aM ml w) (hat : at_ < 256) :
    Calls Try.prog 3 #[.int .i64 lag, .slice aB l.length cB, .slice aM ml.length cM, .int .u8 (at_ : Int)] w fun e w' => e = .returned (.bool true) ∧ Below w.heap.size w w' := by
  have HA := Lib.hid hB
  have HM := Lib.hid hM
  clear hB hM
  by_cases h100 : 100 < l.length
  · have c1 : (l.length : Int) > 100 := by omega
    clear h100
    go_enter Try.func3, Try.ntmps3
    go_wp2_with (go_at_call 4; refine (works5_any _).mono ?_; rintro e w9 ⟨rfl, hb9⟩; have HB9 := Lib.hid (id hb9); clear hb9)
    exact bodyPost_ret (v := .bool true) (by simp only [results, Try.results3]; go_simp) rfl ⟨rfl, HB9.out⟩
  · have c1 : ¬ (l.length : Int) > 100 := by omega
    by_cases hlag : 0 ≤ lag ∧ lag ≤ 20
    rotate_left
    · have CP := Lib.hid (fun W => New_bad lag (.slice aB l.length cB) W hlag)
      have CR := Lib.hid (fun W (_ : Below w.heap.size w W) => RNew_bad lag (.slice aB l.length cB) W hlag)
      clear hlag
      go_enter Try.func3, Try.ntmps3
      go_wp2_with (first | (go_at_call 5; refine (CP.out _).mono ?_; rintro e w1 ⟨rfl, hb1⟩; have HB1 := Lib.hid hb1; clear hb1) | (go_at_call 6; refine (CR.out _ HB1.out).mono ?_; rintro e w2 ⟨rfl, hb2⟩; have HB2 := Lib.hid (bStep HB1.out hb2); clear hb2) | (go_at_call 4; refine (works5_any _).mono ?_; rintro e w9 ⟨rfl, hb9⟩; have HB9 := Lib.hid (bStep HB2.out hb9); clear hb9))
      exact bodyPost_ret (v := .bool true) (by simp only [results, Try.results3]; go_simp) rfl ⟨rfl, HB9.out⟩
    · obtain ⟨lag, rfl⟩ : ∃ n : Nat, lag = (n : Int) := ⟨lag.toNat, by omega⟩
      have hl : lag ≤ 20 := by omega
      clear hlag
      by_cases hn : 16 < l.length
      · have CP := Lib.hid (fun W => New_many lag l.length cB aB W hl hn)
        have CR := Lib.hid (fun W (_ : Below w.heap.size w W) => RNew_many lag l.length cB aB W hl hn)
        clear hn h100 hl
        go_enter Try.func3, Try.ntmps3
        go_wp2_with (first | (go_at_call 5; refine (CP.out _).mono ?_; rintro e w1 ⟨rfl, hb1⟩; have HB1 := Lib.hid hb1; clear hb1) | (go_at_call 6; refine (CR.out _ HB1.out).mono ?_; rintro e w2 ⟨rfl, hb2⟩; have HB2 := Lib.hid (bStep HB1.out hb2); clear hb2) | (go_at_call 4; refine (works5_any _).mono ?_; rintro e w9 ⟨rfl, hb9⟩; have HB9 := Lib.hid (bStep HB2.out hb9); clear hb9))
        exact bodyPost_ret (v := .bool true) (by simp only [results, Try.results3]; go_simp) rfl ⟨rfl, HB9.out⟩
      · have hn2 : l.length ≤ 16 := by omega
        cases hk : l.all okBrk with
        | false =>
          have CP := Lib.hid (New_no (c := cB) hl hn2 HA.out hk)
          have CR := Lib.hid (fun W (hb : Below w.heap.size w W) => RNew_no (c := cB) hl hn2 (HA.out.step hb) hk)
          clear hk hn hn2 h100 hl
          go_enter Try.func3, Try.ntmps3
          go_wp2_with (first | (go_at_call 5; refine CP.out.mono ?_; rintro e w1 ⟨rfl, hb1⟩; have HB1 := Lib.hid hb1; clear hb1) | (go_at_call 6; refine (CR.out _ HB1.out).mono ?_; rintro e w2 ⟨rfl, hb2⟩; have HB2 := Lib.hid (bStep HB1.out hb2); clear hb2) | (go_at_call 4; refine (works5_any _).mono ?_; rintro e w9 ⟨rfl, hb9⟩; have HB9 := Lib.hid (bStep HB2.out hb9); clear hb9))
          exact bodyPost_ret (v := .bool true) (by simp only [results, Try.results3]; go_simp) rfl ⟨rfl, HB9.out⟩
        | true =>
          have CP := Lib.hid (New_yes (c := cB) hl hn2 HA.out hk)
          have CR := Lib.hid (fun W (hb : Below w.heap.size w W) => RNew_yes (c := cB) hl hn2 (HA.out.step hb) hk)
          have HLG := Lib.hid hl
          have HNL := Lib.hid hn2
          clear hk hn hn2 h100 hl
          go_enter Try.func3, Try.ntmps3
          go_upto_region 9 with (first | (go_at_call 5; refine CP.out.mono ?_; rintro e w1 ⟨P, wp, rfl, hpl, hb1⟩; have HB1 := Lib.hid hb1; have HPL := Lib.hid hpl; clear hb1 hpl) | (go_at_call 6; refine (CR.out _ HB1.out).mono ?_; rintro e w2 ⟨Q, aL, cL, rfl, hrp, hb2, hal⟩; have HLW : Hid (LawS w w1.heap.size P Q l lag wp aL cL [] f3 false (.slice none 0 0) w2) := ⟨HPL.out.step hb2, hrp, bStep HB1.out hb2, HB1.out.size, hal⟩; clear hb2 hrp hal))
          clear CP CR HPL HB1
          generalize w1.heap.size = M at *
          go_wp2_with fail
          go_loopw [13] (fun ix wr => ∃ i : Nat, i ≤ ml.length ∧ i ≤ 60 ∧ ix = .int .i64 i ∧ Hid (∃ A sh fi vA, LawS w M P Q l lag wp aL cL A sh fi vA wr ∧ A.length = i)) (fun ix _ => ml.length - (intOf ix).toNat)
          case atStart => exact ⟨0, Nat.zero_le _, Nat.zero_le _, rfl, ⟨_, _, _, _, HLW.out, rfl⟩⟩
          case round =>
            obtain ⟨i, hi, hj, rfl, HS0⟩ := hrel
            obtain ⟨A, sh, fi, vA, hS, hai⟩ := HS0.out
            have HS := Lib.hid hS
            have HAI := Lib.hid hai
            clear HS0 hS hai HLW
            by_cases hc : i < ml.length
            · by_cases hd : i < 60
              · have c2 : (i : Int) < ml.length := by omega
                have c3 : (i : Int) < 60 := by omega
                have c0 : (0 : Int) ≤ i := by omega
                obtain ⟨m, hk⟩ : ∃ m, ml[i]? = some m := ⟨ml[i], List.getElem?_eq_getElem hc⟩
                obtain ⟨b, off, eal, hbb, hbc⟩ := HM.out (by rintro e; rw [e] at hc; simp at hc)
                obtain rfl := eal
                have HMB : Hid (MvB b (off + i * 35) m w) := fun j u hj => hbc i m hk j u hj
                clear hk hbb hbc hc hd
                have hq1 : IntKind.i64.wrap (at_ : Int) = (at_ : Int) := Go.IntWalk.i64_in _ ⟨by omega, by omega⟩
                have hq2 : Int.tmod (at_ : Int) 60 = ((at_ % 60 : Nat) : Int) := by rw [Int.tmod_eq_emod_of_nonneg (by omega)]; rfl
                have hq3 : IntKind.i64.wrap ((at_ % 60 : Nat) : Int) = ((at_ % 60 : Nat) : Int) := Go.IntWalk.i64_in _ ⟨by omega, by omega⟩
                go_upto_if 63 with fail
                go_cut [13] from 49 to 165 (fun s13 W => s13 = .int .i64 (i : Int) ∧ Hid (LawS w M P Q l lag wp aL cL A sh fi vA W))
                case first =>
                  by_cases he : i = at_ % 60
                  · have he2 : ((i : Int) == ((at_ % 60 : Nat) : Int)) = true := by rw [← he]; simp
                    clear he
                    go_upto_region 15 with (first | (go_at_call 7; refine (Copy_any HS.out.pl).mono ?_; rintro e w4 ⟨P1, rfl, hp1, hpl4, hp2, hb4⟩; have HP4 := Lib.hid hpl4; have HPG := Lib.hid hp2; have HB4 := Lib.hid hb4; clear hp1 hpl4 hp2 hb4) | (go_at_call 8; refine (RCopy_any (HS.out.rp.step HB4.out) (by have := HAI.out; omega)).mono ?_; rintro e w5 ⟨Q1, vA1, rfl, hrp5, hb5⟩; have HR5 := Lib.hid hrp5; have HB5 := Lib.hid hb5; clear hrp5 hb5))
                    have HBL : Hid (∀ W, KeepX (fun k => k = P1 ∨ k = Q1 ∨ vA1.ownBlock = some k) w5 W → Below wr.heap.size wr W) := fun W hk => hk.below (bStep HB4.out HB5.out) fun k hk c => by
                        have h1 := HPG.out; have h2 := HR5.out.hQ; have h4 := HB4.out.size
                        rcases c with c | c | c
                        · omega
                        · omega
                        · have := (HR5.out.ow k c).1; omega
                    have HLP1 : Hid (l ≠ [] → ∀ b, aL = some ⟨b, 0, none⟩ → b ≠ P1) := fun hne b e c => by
                        obtain ⟨b', e', -, h2, -⟩ := HS.out.rp.oL hne
                        rw [e] at e'
                        have : b = b' := by injection e' with e'; injection e'
                        have := HPG.out
                        omega
                    have HMX : Hid (∀ W, KeepX (fun k => k = P1 ∨ k = Q1 ∨ vA1.ownBlock = some k) w5 W → MvB b (off + i * 35) m W) := fun W hk => HMB.out.step (bStep HS.out.bel (HBL.out W hk))
                    have HAL : Hid (A.length ≤ 1000) := by have h9 := HAI.out; show A.length ≤ 1000; omega
                    clear he2 hq1 hq2 hq3
                    refine region_gall 37 32 167 [(9, 77), (16, 84)] [(none, []), (none, []), (none, []), (none, []), (none, []), (none, []), (none, []), (none, []), (none, []), (some 0, []), (none, []), (none, []), (none, []), (none, []), (none, []), (none, []), (some 1, []), (none, [0, 1]), (none, []), (none, []), (none, []), (none, [0]), (none, []), (none, []), (none, []), (none, [1]), (none, [0, 1]), (none, []), (none, []), (none, []), (none, []), (none, []), (none, []), (none, []), (none, []), (none, []), (none, [])] [(68, (.pointer (some ⟨P1, 0, none⟩))), (69, (.bool false)), (70, (.bool false)), (71, (.pointer (some ⟨P1, 0, none⟩))), (72, (.slice (some ⟨b, off, none⟩) ml.length cM)), (73, (.int .i64 (i : Int))), (74, (.pointer (some ⟨b, off + i * 35, none⟩))), (75, (.pointer (some ⟨b, off + i * 35 + 31, none⟩))), (76, (actV m.2)), (78, (.pointer (some ⟨Q1, 0, none⟩))), (79, (.slice (some ⟨b, off, none⟩) ml.length cM)), (80, (.int .i64 (i : Int))), (81, (.pointer (some ⟨b, off + i * 35, none⟩))), (82, (.pointer (some ⟨b, off + i * 35 + 31, none⟩))), (83, (actV m.2)), (85, (.bool false)), (86, (.bool false)), (87, (.bool false)), (88, (.pointer (some ⟨P1, 0, none⟩))), (89, (.agg #[.bool (newT l A lag m.2 sh).1, .bool (newT l A lag m.2 sh).2.1, .bool (newT l A lag m.2 sh).2.2])), (90, (.pointer (some ⟨Q1, 0, none⟩))), (91, (.pointer (some ⟨Q1, 0, none⟩))), (92, (.pointer (some ⟨Q1, 3, none⟩))), (93, (.agg #[.bool (newT l A lag m.2 sh).1, .bool (newT l A lag m.2 sh).2.1, .bool (newT l A lag m.2 sh).2.2])), (94, (.bool false)), (95, (.bool false)), (96, (.bool false)), (97, (.pointer (some ⟨P, 0, none⟩))), (98, (.agg #[.bool (sh).1, .bool (sh).2.1, .bool (sh).2.2])), (99, (.pointer (some ⟨Q, 0, none⟩))), (100, (.pointer (some ⟨Q, 0, none⟩))), (101, (.pointer (some ⟨Q, 3, none⟩))), (102, (.agg #[.bool (sh).1, .bool (sh).2.1, .bool (sh).2.2])), (103, (.bool false)), (104, (.bool false))] (fun bsE vsE W => MvS w5 w.heap.size w4.heap.size P1 Q1 l lag wp aL cL A sh fi vA1 m.2 (bsE.getD 0 false) (bsE.getD 1 false) ((vsE.getD 0 undef)) ((vsE.getD 1 undef)) W) (by kernel_rfl) (by kernel_rfl) rfl rfl (by kernel_rfl) (by rfl) ?h0 ?each ?done
                    case h0 =>
                      intro vsE hlv
                      obtain ⟨v0, vsE0, rfl, hlv0⟩ := len_one hlv
                      obtain ⟨v1, vsE1, rfl, hlv1⟩ := len_one hlv0
                      obtain rfl := len_nil hlv1
                      exact MvS.start ((HP4.out.step HB5.out).step (Below.refl _ _).drew) (HR5.out.step (Below.refl _ _).drew) (KeepX.of_below (Below.refl _ _).drew)
                    case each =>
                      simp only [AllE]
                      refine ⟨Or.inr ⟨Or.inl rfl, 68, (.pointer (some ⟨P1, 0, none⟩)), rfl, by kernel_rfl, ?_⟩, Or.inr ⟨Or.inl rfl, 69, (.bool false), rfl, by kernel_rfl, ?_⟩, Or.inr ⟨Or.inl rfl, 70, (.bool false), rfl, by kernel_rfl, ?_⟩, Or.inr ⟨Or.inr ⟨_, _, _, rfl, rfl, by kernel_rfl⟩, 71, (.pointer (some ⟨P1, 0, none⟩)), rfl, by kernel_rfl, ?_⟩, Or.inr ⟨Or.inr ⟨_, _, _, rfl, rfl, by kernel_rfl⟩, 72, (.slice (some ⟨b, off, none⟩) ml.length cM), rfl, by kernel_rfl, ?_⟩, Or.inr ⟨Or.inr ⟨_, _, _, rfl, rfl, by kernel_rfl⟩, 73, (.int .i64 (i : Int)), rfl, by kernel_rfl, ?_⟩, Or.inr ⟨Or.inr ⟨_, _, _, rfl, rfl, by kernel_rfl⟩, 74, (.pointer (some ⟨b, off + i * 35, none⟩)), rfl, by kernel_rfl, ?q1_6⟩, Or.inr ⟨Or.inr ⟨_, _, _, rfl, rfl, by kernel_rfl⟩, 75, (.pointer (some ⟨b, off + i * 35 + 31, none⟩)), rfl, by kernel_rfl, ?_⟩, Or.inr ⟨Or.inr ⟨_, _, _, rfl, rfl, by kernel_rfl⟩, 76, (actV m.2), rfl, by kernel_rfl, ?q1_8⟩, ⟨Or.inr ⟨_, _, _, rfl, rfl, by kernel_rfl⟩, Or.inl ⟨77, rfl, ?q1_9⟩⟩, Or.inr ⟨Or.inr ⟨_, _, _, rfl, rfl, by kernel_rfl⟩, 78, (.pointer (some ⟨Q1, 0, none⟩)), rfl, by kernel_rfl, ?_⟩, Or.inr ⟨Or.inr ⟨_, _, _, rfl, rfl, by kernel_rfl⟩, 79, (.slice (some ⟨b, off, none⟩) ml.length cM), rfl, by kernel_rfl, ?_⟩, Or.inr ⟨Or.inr ⟨_, _, _, rfl, rfl, by kernel_rfl⟩, 80, (.int .i64 (i : Int)), rfl, by kernel_rfl, ?_⟩, Or.inr ⟨Or.inr ⟨_, _, _, rfl, rfl, by kernel_rfl⟩, 81, (.pointer (some ⟨b, off + i * 35, none⟩)), rfl, by kernel_rfl, ?q1_13⟩, Or.inr ⟨Or.inr ⟨_, _, _, rfl, rfl, by kernel_rfl⟩, 82, (.pointer (some ⟨b, off + i * 35 + 31, none⟩)), rfl, by kernel_rfl, ?_⟩, Or.inr ⟨Or.inr ⟨_, _, _, rfl, rfl, by kernel_rfl⟩, 83, (actV m.2), rfl, by kernel_rfl, ?q1_15⟩, ⟨Or.inr ⟨_, _, _, rfl, rfl, by kernel_rfl⟩, Or.inl ⟨84, rfl, ?q1_16⟩⟩, Or.inr ⟨Or.inr ⟨_, _, _, rfl, rfl, by kernel_rfl⟩, 85, (.bool false), rfl, by kernel_rfl, ?q1_17⟩, Or.inr ⟨Or.inl rfl, 86, (.bool false), rfl, by kernel_rfl, ?_⟩, Or.inr ⟨Or.inl rfl, 87, (.bool false), rfl, by kernel_rfl, ?_⟩, Or.inr ⟨Or.inr ⟨_, _, _, rfl, rfl, by kernel_rfl⟩, 88, (.pointer (some ⟨P1, 0, none⟩)), rfl, by kernel_rfl, ?_⟩, Or.inr ⟨Or.inr ⟨_, _, _, rfl, rfl, by kernel_rfl⟩, 89, (.agg #[.bool (newT l A lag m.2 sh).1, .bool (newT l A lag m.2 sh).2.1, .bool (newT l A lag m.2 sh).2.2]), rfl, by kernel_rfl, ?q1_21⟩, Or.inr ⟨Or.inr ⟨_, _, _, rfl, rfl, by kernel_rfl⟩, 90, (.pointer (some ⟨Q1, 0, none⟩)), rfl, by kernel_rfl, ?_⟩, Or.inr ⟨Or.inr ⟨_, _, _, rfl, rfl, by kernel_rfl⟩, 91, (.pointer (some ⟨Q1, 0, none⟩)), rfl, by kernel_rfl, ?_⟩, Or.inr ⟨Or.inr ⟨_, _, _, rfl, rfl, by kernel_rfl⟩, 92, (.pointer (some ⟨Q1, 3, none⟩)), rfl, by kernel_rfl, ?_⟩, Or.inr ⟨Or.inr ⟨_, _, _, rfl, rfl, by kernel_rfl⟩, 93, (.agg #[.bool (newT l A lag m.2 sh).1, .bool (newT l A lag m.2 sh).2.1, .bool (newT l A lag m.2 sh).2.2]), rfl, by kernel_rfl, ?q1_25⟩, Or.inr ⟨Or.inr ⟨_, _, _, rfl, rfl, by kernel_rfl⟩, 94, (.bool false), rfl, by kernel_rfl, ?q1_26⟩, Or.inr ⟨Or.inl rfl, 95, (.bool false), rfl, by kernel_rfl, ?_⟩, Or.inr ⟨Or.inl rfl, 96, (.bool false), rfl, by kernel_rfl, ?_⟩, Or.inr ⟨Or.inr ⟨_, _, _, rfl, rfl, by kernel_rfl⟩, 97, (.pointer (some ⟨P, 0, none⟩)), rfl, by kernel_rfl, ?_⟩, Or.inr ⟨Or.inr ⟨_, _, _, rfl, rfl, by kernel_rfl⟩, 98, (.agg #[.bool (sh).1, .bool (sh).2.1, .bool (sh).2.2]), rfl, by kernel_rfl, ?q1_30⟩, Or.inr ⟨Or.inr ⟨_, _, _, rfl, rfl, by kernel_rfl⟩, 99, (.pointer (some ⟨Q, 0, none⟩)), rfl, by kernel_rfl, ?_⟩, Or.inr ⟨Or.inr ⟨_, _, _, rfl, rfl, by kernel_rfl⟩, 100, (.pointer (some ⟨Q, 0, none⟩)), rfl, by kernel_rfl, ?_⟩, Or.inr ⟨Or.inr ⟨_, _, _, rfl, rfl, by kernel_rfl⟩, 101, (.pointer (some ⟨Q, 3, none⟩)), rfl, by kernel_rfl, ?_⟩, Or.inr ⟨Or.inr ⟨_, _, _, rfl, rfl, by kernel_rfl⟩, 102, (.agg #[.bool (sh).1, .bool (sh).2.1, .bool (sh).2.2]), rfl, by kernel_rfl, ?q1_34⟩, Or.inr ⟨Or.inr ⟨_, _, _, rfl, rfl, by kernel_rfl⟩, 103, (.bool false), rfl, by kernel_rfl, ?q1_35⟩, Or.inr ⟨Or.inl rfl, 104, (.bool false), rfl, by kernel_rfl, ?_⟩, trivial⟩
                      case q1_6 =>
                        intro bsE vsE W hlb hlv hnd h
                        obtain ⟨b0, bsE0, rfl, hlb0⟩ := len_one hlb
                        obtain ⟨v0, vsE0, rfl, hlv0⟩ := len_one hlv
                        obtain ⟨b1, bsE1, rfl, hlb1⟩ := len_one hlb0
                        obtain ⟨v1, vsE1, rfl, hlv1⟩ := len_one hlv0
                        obtain rfl := len_nil hlb1
                        obtain rfl := len_nil hlv1
                        replace h : MvS w5 w.heap.size w4.heap.size P1 Q1 l lag wp aL cL A sh fi vA1 m.2 b0 b1 (v0) (v1) W := h
                        clear hnd
                        have HST := Lib.hid h
                        have lb := (HMX.out W h.kp) 0 _ rfl; have lbb := cell_lt lb
                        intro K Q hK
                        simp only [putE, updAll, Act.put, List.setIfInBounds_toArray, List.set_cons_zero, List.set_cons_succ, List.set_nil] at hK ⊢
                        go_wp2_with (fail)
                        all_goals (first | exact hK _ h | exact h)
                      case q1_8 =>
                        intro bsE vsE W hlb hlv hnd h
                        obtain ⟨b0, bsE0, rfl, hlb0⟩ := len_one hlb
                        obtain ⟨v0, vsE0, rfl, hlv0⟩ := len_one hlv
                        obtain ⟨b1, bsE1, rfl, hlb1⟩ := len_one hlb0
                        obtain ⟨v1, vsE1, rfl, hlv1⟩ := len_one hlv0
                        obtain rfl := len_nil hlb1
                        obtain rfl := len_nil hlv1
                        replace h : MvS w5 w.heap.size w4.heap.size P1 Q1 l lag wp aL cL A sh fi vA1 m.2 b0 b1 (v0) (v1) W := h
                        clear hnd
                        have HST := Lib.hid h
                        skip
                        intro K Q hK
                        simp only [putE, updAll, Act.put, List.setIfInBounds_toArray, List.set_cons_zero, List.set_cons_succ, List.set_nil] at hK ⊢
                        refine wp_load_mid 41 (.tmp 75) rfl b (off + i * 35 + 31) rfl (actC m.2) _ (HMX.out W h.kp).act Try.underlying41 rfl actSize ?_
                        exact hK _ h
                      case q1_9 =>
                        intro bsE vsE W hlb hlv hnd hbk h
                        obtain ⟨b0, bsE0, rfl, hlb0⟩ := len_one hlb
                        obtain ⟨v0, vsE0, rfl, hlv0⟩ := len_one hlv
                        obtain ⟨b1, bsE1, rfl, hlb1⟩ := len_one hlb0
                        obtain ⟨v1, vsE1, rfl, hlv1⟩ := len_one hlv0
                        obtain rfl := len_nil hlb1
                        obtain rfl := len_nil hlv1
                        obtain rfl : b0 = false := hbk
                        replace h : MvS w5 w.heap.size w4.heap.size P1 Q1 l lag wp aL cL A sh fi vA1 m.2 false b1 (v0) (v1) W := h
                        clear hnd
                        have HST := Lib.hid h
                        skip
                        intro K Q hK
                        simp only [putE, updAll, Act.put, List.setIfInBounds_toArray, List.set_cons_zero, List.set_cons_succ, List.set_nil] at hK ⊢
                        go_wp2_with (go_at_call 9; refine (Move_any h.plF0 HLG.out m.2).mono ?_; rintro en w9 ⟨rfl, h9, hk9⟩; have hm := h.mk0 HLP1.out h9 hk9)
                        all_goals (first | exact hK _ _ hm | exact hm)
                      case q1_13 =>
                        intro bsE vsE W hlb hlv hnd h
                        obtain ⟨b0, bsE0, rfl, hlb0⟩ := len_one hlb
                        obtain ⟨v0, vsE0, rfl, hlv0⟩ := len_one hlv
                        obtain ⟨b1, bsE1, rfl, hlb1⟩ := len_one hlb0
                        obtain ⟨v1, vsE1, rfl, hlv1⟩ := len_one hlv0
                        obtain rfl := len_nil hlb1
                        obtain rfl := len_nil hlv1
                        replace h : MvS w5 w.heap.size w4.heap.size P1 Q1 l lag wp aL cL A sh fi vA1 m.2 b0 b1 (v0) (v1) W := h
                        clear hnd
                        have HST := Lib.hid h
                        have lb := (HMX.out W h.kp) 0 _ rfl; have lbb := cell_lt lb
                        intro K Q hK
                        simp only [putE, updAll, Act.put, List.setIfInBounds_toArray, List.set_cons_zero, List.set_cons_succ, List.set_nil] at hK ⊢
                        go_wp2_with (fail)
                        all_goals (first | exact hK _ h | exact h)
                      case q1_15 =>
                        intro bsE vsE W hlb hlv hnd h
                        obtain ⟨b0, bsE0, rfl, hlb0⟩ := len_one hlb
                        obtain ⟨v0, vsE0, rfl, hlv0⟩ := len_one hlv
                        obtain ⟨b1, bsE1, rfl, hlb1⟩ := len_one hlb0
                        obtain ⟨v1, vsE1, rfl, hlv1⟩ := len_one hlv0
                        obtain rfl := len_nil hlb1
                        obtain rfl := len_nil hlv1
                        replace h : MvS w5 w.heap.size w4.heap.size P1 Q1 l lag wp aL cL A sh fi vA1 m.2 b0 b1 (v0) (v1) W := h
                        clear hnd
                        have HST := Lib.hid h
                        skip
                        intro K Q hK
                        simp only [putE, updAll, Act.put, List.setIfInBounds_toArray, List.set_cons_zero, List.set_cons_succ, List.set_nil] at hK ⊢
                        refine wp_load_mid 41 (.tmp 82) rfl b (off + i * 35 + 31) rfl (actC m.2) _ (HMX.out W h.kp).act Try.underlying41 rfl actSize ?_
                        exact hK _ h
                      case q1_16 =>
                        intro bsE vsE W hlb hlv hnd hbk h
                        obtain ⟨b0, bsE0, rfl, hlb0⟩ := len_one hlb
                        obtain ⟨v0, vsE0, rfl, hlv0⟩ := len_one hlv
                        obtain ⟨b1, bsE1, rfl, hlb1⟩ := len_one hlb0
                        obtain ⟨v1, vsE1, rfl, hlv1⟩ := len_one hlv0
                        obtain rfl := len_nil hlb1
                        obtain rfl := len_nil hlv1
                        obtain rfl : b1 = false := hbk
                        replace h : MvS w5 w.heap.size w4.heap.size P1 Q1 l lag wp aL cL A sh fi vA1 m.2 b0 false (v0) (v1) W := h
                        clear hnd
                        have HST := Lib.hid h
                        skip
                        intro K Q hK
                        simp only [putE, updAll, Act.put, List.setIfInBounds_toArray, List.set_cons_zero, List.set_cons_succ, List.set_nil] at hK ⊢
                        go_wp2_with (go_at_call 10; refine (RMove_any h.rpF0 HLG.out HNL.out HAL.out m.2).mono ?_; rintro en w9 ⟨rfl, ⟨vA9, h9, -⟩, hk9⟩; have hm := h.mk1 h9 hk9)
                        all_goals (first | exact hK _ _ hm | exact hm)
                      case q1_17 =>
                        intro bsE vsE W hlb hlv hnd h
                        obtain ⟨b0, bsE0, rfl, hlb0⟩ := len_one hlb
                        obtain ⟨v0, vsE0, rfl, hlv0⟩ := len_one hlv
                        obtain ⟨b1, bsE1, rfl, hlb1⟩ := len_one hlb0
                        obtain ⟨v1, vsE1, rfl, hlv1⟩ := len_one hlv0
                        obtain rfl := len_nil hlb1
                        obtain rfl := len_nil hlv1
                        obtain rfl : b0 = true := hnd 0 (by simp)
                        obtain rfl : b1 = true := hnd 1 (by simp)
                        replace h : MvS w5 w.heap.size w4.heap.size P1 Q1 l lag wp aL cL A sh fi vA1 m.2 true true (v0) (v1) W := h
                        clear hnd
                        have HST := Lib.hid h
                        obtain rfl := h.e0 rfl; obtain rfl := h.e1 rfl
                        intro K Q hK
                        simp only [putE, updAll, Act.put, List.setIfInBounds_toArray, List.set_cons_zero, List.set_cons_succ, List.set_nil] at hK ⊢
                        go_wp2_with (fail)
                        all_goals (first | exact hK _ h | exact h)
                      case q1_21 =>
                        intro bsE vsE W hlb hlv hnd h
                        obtain ⟨b0, bsE0, rfl, hlb0⟩ := len_one hlb
                        obtain ⟨v0, vsE0, rfl, hlv0⟩ := len_one hlv
                        obtain ⟨b1, bsE1, rfl, hlb1⟩ := len_one hlb0
                        obtain ⟨v1, vsE1, rfl, hlv1⟩ := len_one hlv0
                        obtain rfl := len_nil hlb1
                        obtain rfl := len_nil hlv1
                        obtain rfl : b0 = true := hnd 0 (by simp)
                        replace h : MvS w5 w.heap.size w4.heap.size P1 Q1 l lag wp aL cL A sh fi vA1 m.2 true b1 (v0) (v1) W := h
                        clear hnd
                        have HST := Lib.hid h
                        skip
                        intro K Q hK
                        simp only [putE, updAll, Act.put, List.setIfInBounds_toArray, List.set_cons_zero, List.set_cons_succ, List.set_nil] at hK ⊢
                        go_wp2_with (go_at_call 11; refine (Closed_any (h.plT)).mono ?_; rintro en w9 ⟨rfl, hb9⟩)
                        all_goals (first | exact hK _ (h.step hb9) | exact (h.step hb9))
                      case q1_25 =>
                        intro bsE vsE W hlb hlv hnd h
                        obtain ⟨b0, bsE0, rfl, hlb0⟩ := len_one hlb
                        obtain ⟨v0, vsE0, rfl, hlv0⟩ := len_one hlv
                        obtain ⟨b1, bsE1, rfl, hlb1⟩ := len_one hlb0
                        obtain ⟨v1, vsE1, rfl, hlv1⟩ := len_one hlv0
                        obtain rfl := len_nil hlb1
                        obtain rfl := len_nil hlv1
                        obtain rfl : b1 = true := hnd 1 (by simp)
                        replace h : MvS w5 w.heap.size w4.heap.size P1 Q1 l lag wp aL cL A sh fi vA1 m.2 b0 true (v0) (v1) W := h
                        clear hnd
                        have HST := Lib.hid h
                        obtain ⟨v9, g9⟩ := h.rpT; have lq := (g9).lt; have s0 := blk_cell (o := 3) (g9).blk rfl; have s1 := blk_cell (o := 4) (g9).blk rfl; have s2 := blk_cell (o := 5) (g9).blk rfl
                        intro K Q hK
                        simp only [putE, updAll, Act.put, List.setIfInBounds_toArray, List.set_cons_zero, List.set_cons_succ, List.set_nil] at hK ⊢
                        go_wp2_with (fail)
                        all_goals (first | exact hK _ h | exact h)
                      case q1_26 =>
                        intro bsE vsE W hlb hlv hnd h
                        obtain ⟨b0, bsE0, rfl, hlb0⟩ := len_one hlb
                        obtain ⟨v0, vsE0, rfl, hlv0⟩ := len_one hlv
                        obtain ⟨b1, bsE1, rfl, hlb1⟩ := len_one hlb0
                        obtain ⟨v1, vsE1, rfl, hlv1⟩ := len_one hlv0
                        obtain rfl := len_nil hlb1
                        obtain rfl := len_nil hlv1
                        obtain rfl : b0 = true := hnd 0 (by simp)
                        obtain rfl : b1 = true := hnd 1 (by simp)
                        replace h : MvS w5 w.heap.size w4.heap.size P1 Q1 l lag wp aL cL A sh fi vA1 m.2 true true (v0) (v1) W := h
                        clear hnd
                        have HST := Lib.hid h
                        skip
                        intro K Q hK
                        simp only [putE, updAll, Act.put, List.setIfInBounds_toArray, List.set_cons_zero, List.set_cons_succ, List.set_nil] at hK ⊢
                        refine wp_tneq (newT l A lag m.2 sh) (.tmp 89) (.tmp 93) _ rfl rfl rfl ?_
                        exact hK _ h
                      case q1_30 =>
                        intro bsE vsE W hlb hlv hnd h
                        obtain ⟨b0, bsE0, rfl, hlb0⟩ := len_one hlb
                        obtain ⟨v0, vsE0, rfl, hlv0⟩ := len_one hlv
                        obtain ⟨b1, bsE1, rfl, hlb1⟩ := len_one hlb0
                        obtain ⟨v1, vsE1, rfl, hlv1⟩ := len_one hlv0
                        obtain rfl := len_nil hlb1
                        obtain rfl := len_nil hlv1
                        replace h : MvS w5 w.heap.size w4.heap.size P1 Q1 l lag wp aL cL A sh fi vA1 m.2 b0 b1 (v0) (v1) W := h
                        clear hnd
                        have HST := Lib.hid h
                        skip
                        intro K Q hK
                        simp only [putE, updAll, Act.put, List.setIfInBounds_toArray, List.set_cons_zero, List.set_cons_succ, List.set_nil] at hK ⊢
                        go_wp2_with (go_at_call 11; refine (Closed_any ((HS.out.pl.step (HBL.out W h.kp)))).mono ?_; rintro en w9 ⟨rfl, hb9⟩)
                        all_goals (first | exact hK _ (h.step hb9) | exact (h.step hb9))
                      case q1_34 =>
                        intro bsE vsE W hlb hlv hnd h
                        obtain ⟨b0, bsE0, rfl, hlb0⟩ := len_one hlb
                        obtain ⟨v0, vsE0, rfl, hlv0⟩ := len_one hlv
                        obtain ⟨b1, bsE1, rfl, hlb1⟩ := len_one hlb0
                        obtain ⟨v1, vsE1, rfl, hlv1⟩ := len_one hlv0
                        obtain rfl := len_nil hlb1
                        obtain rfl := len_nil hlv1
                        replace h : MvS w5 w.heap.size w4.heap.size P1 Q1 l lag wp aL cL A sh fi vA1 m.2 b0 b1 (v0) (v1) W := h
                        clear hnd
                        have HST := Lib.hid h
                        have lq := ((HS.out.rp.step (HBL.out W h.kp))).lt; have s0 := blk_cell (o := 3) ((HS.out.rp.step (HBL.out W h.kp))).blk rfl; have s1 := blk_cell (o := 4) ((HS.out.rp.step (HBL.out W h.kp))).blk rfl; have s2 := blk_cell (o := 5) ((HS.out.rp.step (HBL.out W h.kp))).blk rfl
                        intro K Q hK
                        simp only [putE, updAll, Act.put, List.setIfInBounds_toArray, List.set_cons_zero, List.set_cons_succ, List.set_nil] at hK ⊢
                        go_wp2_with (fail)
                        all_goals (first | exact hK _ h | exact h)
                      case q1_35 =>
                        intro bsE vsE W hlb hlv hnd h
                        obtain ⟨b0, bsE0, rfl, hlb0⟩ := len_one hlb
                        obtain ⟨v0, vsE0, rfl, hlv0⟩ := len_one hlv
                        obtain ⟨b1, bsE1, rfl, hlb1⟩ := len_one hlb0
                        obtain ⟨v1, vsE1, rfl, hlv1⟩ := len_one hlv0
                        obtain rfl := len_nil hlb1
                        obtain rfl := len_nil hlv1
                        replace h : MvS w5 w.heap.size w4.heap.size P1 Q1 l lag wp aL cL A sh fi vA1 m.2 b0 b1 (v0) (v1) W := h
                        clear hnd
                        have HST := Lib.hid h
                        skip
                        intro K Q hK
                        simp only [putE, updAll, Act.put, List.setIfInBounds_toArray, List.set_cons_zero, List.set_cons_succ, List.set_nil] at hK ⊢
                        refine wp_tneq (sh) (.tmp 98) (.tmp 102) _ rfl rfl rfl ?_
                        exact hK _ h
                      all_goals
                        intro bsE vsE W hlb hlv hnd h
                        obtain ⟨b0, bsE0, rfl, hlb0⟩ := len_one hlb
                        obtain ⟨v0, vsE0, rfl, hlv0⟩ := len_one hlv
                        obtain ⟨b1, bsE1, rfl, hlb1⟩ := len_one hlb0
                        obtain ⟨v1, vsE1, rfl, hlv1⟩ := len_one hlv0
                        obtain rfl := len_nil hlb1
                        obtain rfl := len_nil hlv1
                        replace h : MvS w5 w.heap.size w4.heap.size P1 Q1 l lag wp aL cL A sh fi vA1 m.2 b0 b1 (v0) (v1) W := h
                        clear hnd
                        have HST := Lib.hid h
                        skip
                        intro K Q hK
                        simp only [putE, updAll, Act.put, List.setIfInBounds_toArray, List.set_cons_zero, List.set_cons_succ, List.set_nil] at hK ⊢
                        go_wp2_with (fail)
                        all_goals (first | exact hK _ h | exact h)
                    case done =>
                      intro vsE W hlv h
                      obtain ⟨v0, vsE0, rfl, hlv0⟩ := len_one hlv
                      obtain ⟨v1, vsE1, rfl, hlv1⟩ := len_one hlv0
                      obtain rfl := len_nil hlv1
                      replace h : MvS w5 w.heap.size w4.heap.size P1 Q1 l lag wp aL cL A sh fi vA1 m.2 true true (v0) (v1) W := h
                      have HST := Lib.hid h
                      have HBW := Lib.hid (HBL.out _ h.kp)
                      clear h HST
                      simp only [putE, updAll, Act.put, List.setIfInBounds_toArray, List.set_cons_zero, List.set_cons_succ, List.set_nil]
                      go_wp2_with fail
                      go_meet
                      exact ⟨rfl, HS.out.step HBW.out⟩
                  · have he2 : ¬ (i : Int) = ((at_ % 60 : Nat) : Int) := fun c => he (by omega)
                    have he3 : ((i : Int) == ((at_ % 60 : Nat) : Int)) = false := by simpa using he2
                    clear he
                    go_wp2_with fail
                    go_meet
                    exact ⟨rfl, HS⟩
                case rest =>
                  obtain ⟨rfl, hcut2⟩ := hcut
                  replace HS := hcut2
                  clear hcut2 hq1 hq2 hq3
                  have HAL : Hid (A.length ≤ 1000) := by have h9 := HAI.out; show A.length ≤ 1000; omega
                  have HT1 := Lib.hid (HMB.out.step HS.out.bel).tru
                  have CSH := Lib.hid (PShow_any HS.out.pl m.1)
                  go_upto_region 18 with (first | (refine wpList_load_mid rfl 38 (.tmp 110) rfl b (off + i * 35) rfl (truC m.1) _ HT1.out Try.underlying38 rfl trSize ?_) | (go_at_call 12; refine CSH.out.mono ?_; rintro e w6 ⟨rfl, hb6⟩) | (refine wpList_store_mid rfl 52 (.tmp 16) (.tmp 113) rfl w6.heap.size 0 (fA 31 (shF l m.1 sh)) rfl rfl (by rw [fA_size]; exact there_new rfl) (by rw [fA_size]; exact sgSize) (fA_one fun k _ => shF_one) ?_; change wpList _ _ _ _ _ ((w6.alloc (.cells (fA 31 zS) 52)).setCells w6.heap.size 0 (fA 31 (shF l m.1 sh)).toList); obtain ⟨W6, hEX⟩ : ∃ W6, W6 = (w6.alloc (.cells (fA 31 zS) 52)).setCells w6.heap.size 0 (fA 31 (shF l m.1 sh)).toList := ⟨_, rfl⟩; rw [← hEX]; have HS1 : Hid (W6.heap[w6.heap.size]? = some (fO 31 (shF l m.1 sh) 52)) := (by rw [hEX]; exact (fb_sets_all (blk_new w6 _) (by rw [fA_list]; simp)).trans (by refine congrArg some (fO_ext fun k hk => ?_); rw [fA_list, List.getD_eq_getElem?_getD, List.getElem?_map, List.getElem?_range hk]; rfl)); have HXS1 : Hid (Below wc.heap.size wc W6) := (by rw [hEX]; exact bSetCells _ _ (bStep hb6 bAl) hb6.size); have HGS1 := Lib.hid hb6.size; clear hEX hb6))
                  generalize w6.heap.size = S1 at *
                  have HS6 := Lib.hid (HS.out.step HXS1.out)
                  have HT2 := Lib.hid (HMB.out.step HS6.out.bel).tru
                  have CRS := Lib.hid (RShow_any HS6.out.rp HNL.out m.1)
                  clear CSH HT1
                  go_upto_region 19 with (first | (refine wpList_load_mid rfl 38 (.tmp 120) rfl b (off + i * 35) rfl (truC m.1) _ HT2.out Try.underlying38 rfl trSize ?_) | (go_at_call 13; refine CRS.out.mono ?_; rintro e w7 ⟨rfl, hb7⟩) | (refine wpList_store_mid rfl 52 (.tmp 18) (.tmp 123) rfl w7.heap.size 0 (fA 31 (shF l m.1 sh)) rfl rfl (by rw [fA_size]; exact there_new rfl) (by rw [fA_size]; exact sgSize) (fA_one fun k _ => shF_one) ?_; change wpList _ _ _ _ _ ((w7.alloc (.cells (fA 31 zS) 52)).setCells w7.heap.size 0 (fA 31 (shF l m.1 sh)).toList); obtain ⟨W7, hEX⟩ : ∃ W7, W7 = (w7.alloc (.cells (fA 31 zS) 52)).setCells w7.heap.size 0 (fA 31 (shF l m.1 sh)).toList := ⟨_, rfl⟩; rw [← hEX]; have HS2 : Hid (W7.heap[w7.heap.size]? = some (fO 31 (shF l m.1 sh) 52)) := (by rw [hEX]; exact (fb_sets_all (blk_new w7 _) (by rw [fA_list]; simp)).trans (by refine congrArg some (fO_ext fun k hk => ?_); rw [fA_list, List.getD_eq_getElem?_getD, List.getElem?_map, List.getElem?_range hk]; rfl)); have HXS2 : Hid (Below W6.heap.size W6 W7) := (by rw [hEX]; exact bSetCells _ _ (bStep hb7 bAl) hb7.size); have HGS2 := Lib.hid hb7.size; clear hEX hb7))
                  generalize w7.heap.size = S2 at *
                  have HS7 := Lib.hid (HS6.out.step HXS2.out)
                  replace HS1 := Lib.hid (blk_step HS1.out HXS2.out)
                  have HBX := Lib.hid HS7.out.bel
                  have HNW : Hid (∀ k, k < w.heap.size → ¬ (k = P ∨ k = Q ∨ vA.ownBlock = some k)) := fun k hk c => by
                      have h1 := HS7.out.pl.hP; have h2 := HS7.out.rp.hQ; have h3 := HS7.out.hM
                      rcases c with c | c | c
                      · omega
                      · omega
                      · have := (HS7.out.rp.ow k c).1; omega
                  have HP6 : Hid (P < wc.heap.size ∧ Q < wc.heap.size ∧ ∀ k, vA.ownBlock = some k → k < wc.heap.size) := ⟨HS.out.pl.lt, HS.out.rp.lt, fun k e => (HS.out.rp.ow k e).2⟩
                  have HNS1 : Hid (¬ (S1 = P ∨ S1 = Q ∨ vA.ownBlock = some S1)) := by
                      rintro (c | c | c)
                      · have := HP6.out.1; have := HGS1.out; omega
                      · have := HP6.out.2.1; have := HGS1.out; omega
                      · have := HP6.out.2.2 _ c; have := HGS1.out; omega
                  have HNS2 : Hid (¬ (S2 = P ∨ S2 = Q ∨ vA.ownBlock = some S2)) := by
                      have g := HXS1.out.size
                      rintro (c | c | c)
                      · have := HP6.out.1; have := HGS2.out; omega
                      · have := HP6.out.2.1; have := HGS2.out; omega
                      · have := HP6.out.2.2 _ c; have := HGS2.out; omega
                  have HLP : Hid (l ≠ [] → ∀ b, aL = some ⟨b, 0, none⟩ → b ≠ P) := fun _ b e c => by have := HS.out.hL b e; have := HS.out.pl.hP; omega
                  have HMX : Hid (∀ W, KeepX (fun k => k = P ∨ k = Q ∨ vA.ownBlock = some k) W7 W → MvB b (off + i * 35) m W) := fun W hk => HMB.out.step (hk.below HBX.out HNW.out)
                  clear HP6 HS6 HMB CRS HT2
                  refine region_gall 41 32 167 [(15, 140), (22, 147)] [(none, []), (none, []), (none, []), (none, []), (none, []), (none, []), (none, []), (none, []), (none, []), (none, []), (none, []), (none, []), (none, []), (none, []), (none, []), (some 0, []), (none, []), (none, []), (none, []), (none, []), (none, []), (none, []), (some 1, []), (none, [0, 1]), (none, []), (none, []), (none, []), (none, [0]), (none, []), (none, []), (none, []), (none, [1]), (none, [0, 1]), (none, []), (none, []), (none, []), (none, [0]), (none, []), (none, [1]), (none, []), (none, [])] [(125, (.agg (fA 31 (shF l m.1 sh)))), (126, (.agg (fA 31 (shF l m.1 sh)))), (127, (.bool false)), (128, (.bool false)), (129, (.int .i64 (shE m.1))), (130, (.int .i64 (shE m.1))), (131, (.bool false)), (132, (.bool false)), (133, (.bool false)), (134, (.pointer (some ⟨P, 0, none⟩))), (135, (.slice (some ⟨b, off, none⟩) ml.length cM)), (136, (.int .i64 (i : Int))), (137, (.pointer (some ⟨b, off + i * 35, none⟩))), (138, (.pointer (some ⟨b, off + i * 35 + 31, none⟩))), (139, (actV m.2)), (141, (.pointer (some ⟨Q, 0, none⟩))), (142, (.slice (some ⟨b, off, none⟩) ml.length cM)), (143, (.int .i64 (i : Int))), (144, (.pointer (some ⟨b, off + i * 35, none⟩))), (145, (.pointer (some ⟨b, off + i * 35 + 31, none⟩))), (146, (actV m.2)), (148, (.bool false)), (149, (.bool false)), (150, (.bool false)), (151, (.pointer (some ⟨P, 0, none⟩))), (152, (.agg #[.bool (newT l A lag m.2 sh).1, .bool (newT l A lag m.2 sh).2.1, .bool (newT l A lag m.2 sh).2.2])), (153, (.pointer (some ⟨Q, 0, none⟩))), (154, (.pointer (some ⟨Q, 0, none⟩))), (155, (.pointer (some ⟨Q, 3, none⟩))), (156, (.agg #[.bool (newT l A lag m.2 sh).1, .bool (newT l A lag m.2 sh).2.1, .bool (newT l A lag m.2 sh).2.2])), (157, (.bool false)), (158, (.bool false)), (159, (.bool false)), (160, (.pointer (some ⟨P, 0, none⟩))), (161, (.bool (pathB (newT l A lag m.2 sh) (fi || m.2.2)))), (162, (.pointer (some ⟨Q, 0, none⟩))), (163, (.bool (pathB (newT l A lag m.2 sh) (fi || m.2.2)))), (164, (.bool false)), (165, (.bool false))] (fun bsE vsE W => MvS W7 w.heap.size M P Q l lag wp aL cL A sh fi vA m.2 (bsE.getD 0 false) (bsE.getD 1 false) ((vsE.getD 0 undef)) ((vsE.getD 1 undef)) W) (by kernel_rfl) (by kernel_rfl) rfl rfl (by kernel_rfl) (by rfl) ?h0 ?each ?done
                  case h0 =>
                    intro vsE hlv
                    obtain ⟨v0, vsE0, rfl, hlv0⟩ := len_one hlv
                    obtain ⟨v1, vsE1, rfl, hlv1⟩ := len_one hlv0
                    obtain rfl := len_nil hlv1
                    exact MvS.start (HS7.out.pl.step (Below.refl _ _).drew) (HS7.out.rp.step (Below.refl _ _).drew) (KeepX.of_below (Below.refl _ _).drew)
                  case each =>
                    simp only [AllE]
                    refine ⟨Or.inr ⟨Or.inl rfl, 125, (.agg (fA 31 (shF l m.1 sh))), rfl, by kernel_rfl, ?q2_0⟩, Or.inr ⟨Or.inl rfl, 126, (.agg (fA 31 (shF l m.1 sh))), rfl, by kernel_rfl, ?q2_1⟩, Or.inr ⟨Or.inl rfl, 127, (.bool false), rfl, by kernel_rfl, ?q2_2⟩, Or.inr ⟨Or.inl rfl, 128, (.bool false), rfl, by kernel_rfl, ?_⟩, Or.inr ⟨Or.inr ⟨_, _, _, rfl, rfl, by kernel_rfl⟩, 129, (.int .i64 (shE m.1)), rfl, by kernel_rfl, ?_⟩, Or.inr ⟨Or.inr ⟨_, _, _, rfl, rfl, by kernel_rfl⟩, 130, (.int .i64 (shE m.1)), rfl, by kernel_rfl, ?_⟩, Or.inr ⟨Or.inr ⟨_, _, _, rfl, rfl, by kernel_rfl⟩, 131, (.bool false), rfl, by kernel_rfl, ?_⟩, Or.inr ⟨Or.inl rfl, 132, (.bool false), rfl, by kernel_rfl, ?_⟩, Or.inr ⟨Or.inl rfl, 133, (.bool false), rfl, by kernel_rfl, ?_⟩, Or.inr ⟨Or.inr ⟨_, _, _, rfl, rfl, by kernel_rfl⟩, 134, (.pointer (some ⟨P, 0, none⟩)), rfl, by kernel_rfl, ?_⟩, Or.inr ⟨Or.inr ⟨_, _, _, rfl, rfl, by kernel_rfl⟩, 135, (.slice (some ⟨b, off, none⟩) ml.length cM), rfl, by kernel_rfl, ?_⟩, Or.inr ⟨Or.inr ⟨_, _, _, rfl, rfl, by kernel_rfl⟩, 136, (.int .i64 (i : Int)), rfl, by kernel_rfl, ?_⟩, Or.inr ⟨Or.inr ⟨_, _, _, rfl, rfl, by kernel_rfl⟩, 137, (.pointer (some ⟨b, off + i * 35, none⟩)), rfl, by kernel_rfl, ?q2_12⟩, Or.inr ⟨Or.inr ⟨_, _, _, rfl, rfl, by kernel_rfl⟩, 138, (.pointer (some ⟨b, off + i * 35 + 31, none⟩)), rfl, by kernel_rfl, ?_⟩, Or.inr ⟨Or.inr ⟨_, _, _, rfl, rfl, by kernel_rfl⟩, 139, (actV m.2), rfl, by kernel_rfl, ?q2_14⟩, ⟨Or.inr ⟨_, _, _, rfl, rfl, by kernel_rfl⟩, Or.inl ⟨140, rfl, ?q2_15⟩⟩, Or.inr ⟨Or.inr ⟨_, _, _, rfl, rfl, by kernel_rfl⟩, 141, (.pointer (some ⟨Q, 0, none⟩)), rfl, by kernel_rfl, ?_⟩, Or.inr ⟨Or.inr ⟨_, _, _, rfl, rfl, by kernel_rfl⟩, 142, (.slice (some ⟨b, off, none⟩) ml.length cM), rfl, by kernel_rfl, ?_⟩, Or.inr ⟨Or.inr ⟨_, _, _, rfl, rfl, by kernel_rfl⟩, 143, (.int .i64 (i : Int)), rfl, by kernel_rfl, ?_⟩, Or.inr ⟨Or.inr ⟨_, _, _, rfl, rfl, by kernel_rfl⟩, 144, (.pointer (some ⟨b, off + i * 35, none⟩)), rfl, by kernel_rfl, ?q2_19⟩, Or.inr ⟨Or.inr ⟨_, _, _, rfl, rfl, by kernel_rfl⟩, 145, (.pointer (some ⟨b, off + i * 35 + 31, none⟩)), rfl, by kernel_rfl, ?_⟩, Or.inr ⟨Or.inr ⟨_, _, _, rfl, rfl, by kernel_rfl⟩, 146, (actV m.2), rfl, by kernel_rfl, ?q2_21⟩, ⟨Or.inr ⟨_, _, _, rfl, rfl, by kernel_rfl⟩, Or.inl ⟨147, rfl, ?q2_22⟩⟩, Or.inr ⟨Or.inr ⟨_, _, _, rfl, rfl, by kernel_rfl⟩, 148, (.bool false), rfl, by kernel_rfl, ?q2_23⟩, Or.inr ⟨Or.inl rfl, 149, (.bool false), rfl, by kernel_rfl, ?_⟩, Or.inr ⟨Or.inl rfl, 150, (.bool false), rfl, by kernel_rfl, ?_⟩, Or.inr ⟨Or.inr ⟨_, _, _, rfl, rfl, by kernel_rfl⟩, 151, (.pointer (some ⟨P, 0, none⟩)), rfl, by kernel_rfl, ?_⟩, Or.inr ⟨Or.inr ⟨_, _, _, rfl, rfl, by kernel_rfl⟩, 152, (.agg #[.bool (newT l A lag m.2 sh).1, .bool (newT l A lag m.2 sh).2.1, .bool (newT l A lag m.2 sh).2.2]), rfl, by kernel_rfl, ?q2_27⟩, Or.inr ⟨Or.inr ⟨_, _, _, rfl, rfl, by kernel_rfl⟩, 153, (.pointer (some ⟨Q, 0, none⟩)), rfl, by kernel_rfl, ?_⟩, Or.inr ⟨Or.inr ⟨_, _, _, rfl, rfl, by kernel_rfl⟩, 154, (.pointer (some ⟨Q, 0, none⟩)), rfl, by kernel_rfl, ?_⟩, Or.inr ⟨Or.inr ⟨_, _, _, rfl, rfl, by kernel_rfl⟩, 155, (.pointer (some ⟨Q, 3, none⟩)), rfl, by kernel_rfl, ?_⟩, Or.inr ⟨Or.inr ⟨_, _, _, rfl, rfl, by kernel_rfl⟩, 156, (.agg #[.bool (newT l A lag m.2 sh).1, .bool (newT l A lag m.2 sh).2.1, .bool (newT l A lag m.2 sh).2.2]), rfl, by kernel_rfl, ?q2_31⟩, Or.inr ⟨Or.inr ⟨_, _, _, rfl, rfl, by kernel_rfl⟩, 157, (.bool false), rfl, by kernel_rfl, ?q2_32⟩, Or.inr ⟨Or.inl rfl, 158, (.bool false), rfl, by kernel_rfl, ?_⟩, Or.inr ⟨Or.inl rfl, 159, (.bool false), rfl, by kernel_rfl, ?_⟩, Or.inr ⟨Or.inr ⟨_, _, _, rfl, rfl, by kernel_rfl⟩, 160, (.pointer (some ⟨P, 0, none⟩)), rfl, by kernel_rfl, ?_⟩, Or.inr ⟨Or.inr ⟨_, _, _, rfl, rfl, by kernel_rfl⟩, 161, (.bool (pathB (newT l A lag m.2 sh) (fi || m.2.2))), rfl, by kernel_rfl, ?q2_36⟩, Or.inr ⟨Or.inr ⟨_, _, _, rfl, rfl, by kernel_rfl⟩, 162, (.pointer (some ⟨Q, 0, none⟩)), rfl, by kernel_rfl, ?_⟩, Or.inr ⟨Or.inr ⟨_, _, _, rfl, rfl, by kernel_rfl⟩, 163, (.bool (pathB (newT l A lag m.2 sh) (fi || m.2.2))), rfl, by kernel_rfl, ?q2_38⟩, Or.inr ⟨Or.inr ⟨_, _, _, rfl, rfl, by kernel_rfl⟩, 164, (.bool false), rfl, by kernel_rfl, ?_⟩, Or.inr ⟨Or.inl rfl, 165, (.bool false), rfl, by kernel_rfl, ?_⟩, trivial⟩
                    case q2_0 =>
                      intro bsE vsE W hlb hlv hnd h
                      obtain ⟨b0, bsE0, rfl, hlb0⟩ := len_one hlb
                      obtain ⟨v0, vsE0, rfl, hlv0⟩ := len_one hlv
                      obtain ⟨b1, bsE1, rfl, hlb1⟩ := len_one hlb0
                      obtain ⟨v1, vsE1, rfl, hlv1⟩ := len_one hlv0
                      obtain rfl := len_nil hlb1
                      obtain rfl := len_nil hlv1
                      replace h : MvS W7 w.heap.size M P Q l lag wp aL cL A sh fi vA m.2 b0 b1 (v0) (v1) W := h
                      clear hnd
                      have HST := Lib.hid h
                      skip
                      intro K Q hK
                      simp only [putE, updAll, Act.put, List.setIfInBounds_toArray, List.set_cons_zero, List.set_cons_succ, List.set_nil] at hK ⊢
                      refine wp_load_mid 52 (.tmp 16) rfl S1 0 rfl (fA 31 (shF l m.1 sh)).toList _ (fb_range (h.kp.blk HS1.out HNS1.out)) Try.underlying52 rfl (by rw [fA_list]; simpa using sgSize) ?_
                      rw [fA_back2]
                      exact hK _ h
                    case q2_1 =>
                      intro bsE vsE W hlb hlv hnd h
                      obtain ⟨b0, bsE0, rfl, hlb0⟩ := len_one hlb
                      obtain ⟨v0, vsE0, rfl, hlv0⟩ := len_one hlv
                      obtain ⟨b1, bsE1, rfl, hlb1⟩ := len_one hlb0
                      obtain ⟨v1, vsE1, rfl, hlv1⟩ := len_one hlv0
                      obtain rfl := len_nil hlb1
                      obtain rfl := len_nil hlv1
                      replace h : MvS W7 w.heap.size M P Q l lag wp aL cL A sh fi vA m.2 b0 b1 (v0) (v1) W := h
                      clear hnd
                      have HST := Lib.hid h
                      skip
                      intro K Q hK
                      simp only [putE, updAll, Act.put, List.setIfInBounds_toArray, List.set_cons_zero, List.set_cons_succ, List.set_nil] at hK ⊢
                      refine wp_load_mid 52 (.tmp 18) rfl S2 0 rfl (fA 31 (shF l m.1 sh)).toList _ (fb_range (h.kp.blk HS2.out HNS2.out)) Try.underlying52 rfl (by rw [fA_list]; simpa using sgSize) ?_
                      rw [fA_back2]
                      exact hK _ h
                    case q2_2 =>
                      intro bsE vsE W hlb hlv hnd h
                      obtain ⟨b0, bsE0, rfl, hlb0⟩ := len_one hlb
                      obtain ⟨v0, vsE0, rfl, hlv0⟩ := len_one hlv
                      obtain ⟨b1, bsE1, rfl, hlb1⟩ := len_one hlb0
                      obtain ⟨v1, vsE1, rfl, hlv1⟩ := len_one hlv0
                      obtain rfl := len_nil hlb1
                      obtain rfl := len_nil hlv1
                      replace h : MvS W7 w.heap.size M P Q l lag wp aL cL A sh fi vA m.2 b0 b1 (v0) (v1) W := h
                      clear hnd
                      have HST := Lib.hid h
                      skip
                      intro K Q hK
                      simp only [putE, updAll, Act.put, List.setIfInBounds_toArray, List.set_cons_zero, List.set_cons_succ, List.set_nil] at hK ⊢
                      refine wp_sneq (G := shF l m.1 sh) (fun k hk => shF_kind hk) (.tmp 125) (.tmp 126) _ rfl rfl rfl ?_
                      exact hK _ h
                    case q2_12 =>
                      intro bsE vsE W hlb hlv hnd h
                      obtain ⟨b0, bsE0, rfl, hlb0⟩ := len_one hlb
                      obtain ⟨v0, vsE0, rfl, hlv0⟩ := len_one hlv
                      obtain ⟨b1, bsE1, rfl, hlb1⟩ := len_one hlb0
                      obtain ⟨v1, vsE1, rfl, hlv1⟩ := len_one hlv0
                      obtain rfl := len_nil hlb1
                      obtain rfl := len_nil hlv1
                      replace h : MvS W7 w.heap.size M P Q l lag wp aL cL A sh fi vA m.2 b0 b1 (v0) (v1) W := h
                      clear hnd
                      have HST := Lib.hid h
                      have lb := (HMX.out W h.kp) 0 _ rfl; have lbb := cell_lt lb
                      intro K Q hK
                      simp only [putE, updAll, Act.put, List.setIfInBounds_toArray, List.set_cons_zero, List.set_cons_succ, List.set_nil] at hK ⊢
                      go_wp2_with (fail)
                      all_goals (first | exact hK _ h | exact h)
                    case q2_14 =>
                      intro bsE vsE W hlb hlv hnd h
                      obtain ⟨b0, bsE0, rfl, hlb0⟩ := len_one hlb
                      obtain ⟨v0, vsE0, rfl, hlv0⟩ := len_one hlv
                      obtain ⟨b1, bsE1, rfl, hlb1⟩ := len_one hlb0
                      obtain ⟨v1, vsE1, rfl, hlv1⟩ := len_one hlv0
                      obtain rfl := len_nil hlb1
                      obtain rfl := len_nil hlv1
                      replace h : MvS W7 w.heap.size M P Q l lag wp aL cL A sh fi vA m.2 b0 b1 (v0) (v1) W := h
                      clear hnd
                      have HST := Lib.hid h
                      skip
                      intro K Q hK
                      simp only [putE, updAll, Act.put, List.setIfInBounds_toArray, List.set_cons_zero, List.set_cons_succ, List.set_nil] at hK ⊢
                      refine wp_load_mid 41 (.tmp 138) rfl b (off + i * 35 + 31) rfl (actC m.2) _ (HMX.out W h.kp).act Try.underlying41 rfl actSize ?_
                      exact hK _ h
                    case q2_15 =>
                      intro bsE vsE W hlb hlv hnd hbk h
                      obtain ⟨b0, bsE0, rfl, hlb0⟩ := len_one hlb
                      obtain ⟨v0, vsE0, rfl, hlv0⟩ := len_one hlv
                      obtain ⟨b1, bsE1, rfl, hlb1⟩ := len_one hlb0
                      obtain ⟨v1, vsE1, rfl, hlv1⟩ := len_one hlv0
                      obtain rfl := len_nil hlb1
                      obtain rfl := len_nil hlv1
                      obtain rfl : b0 = false := hbk
                      replace h : MvS W7 w.heap.size M P Q l lag wp aL cL A sh fi vA m.2 false b1 (v0) (v1) W := h
                      clear hnd
                      have HST := Lib.hid h
                      skip
                      intro K Q hK
                      simp only [putE, updAll, Act.put, List.setIfInBounds_toArray, List.set_cons_zero, List.set_cons_succ, List.set_nil] at hK ⊢
                      go_wp2_with (go_at_call 9; refine (Move_any h.plF0 HLG.out m.2).mono ?_; rintro en w9 ⟨rfl, h9, hk9⟩; have hm := h.mk0 HLP.out h9 hk9)
                      all_goals (first | exact hK _ _ hm | exact hm)
                    case q2_19 =>
                      intro bsE vsE W hlb hlv hnd h
                      obtain ⟨b0, bsE0, rfl, hlb0⟩ := len_one hlb
                      obtain ⟨v0, vsE0, rfl, hlv0⟩ := len_one hlv
                      obtain ⟨b1, bsE1, rfl, hlb1⟩ := len_one hlb0
                      obtain ⟨v1, vsE1, rfl, hlv1⟩ := len_one hlv0
                      obtain rfl := len_nil hlb1
                      obtain rfl := len_nil hlv1
                      replace h : MvS W7 w.heap.size M P Q l lag wp aL cL A sh fi vA m.2 b0 b1 (v0) (v1) W := h
                      clear hnd
                      have HST := Lib.hid h
                      have lb := (HMX.out W h.kp) 0 _ rfl; have lbb := cell_lt lb
                      intro K Q hK
                      simp only [putE, updAll, Act.put, List.setIfInBounds_toArray, List.set_cons_zero, List.set_cons_succ, List.set_nil] at hK ⊢
                      go_wp2_with (fail)
                      all_goals (first | exact hK _ h | exact h)
                    case q2_21 =>
                      intro bsE vsE W hlb hlv hnd h
                      obtain ⟨b0, bsE0, rfl, hlb0⟩ := len_one hlb
                      obtain ⟨v0, vsE0, rfl, hlv0⟩ := len_one hlv
                      obtain ⟨b1, bsE1, rfl, hlb1⟩ := len_one hlb0
                      obtain ⟨v1, vsE1, rfl, hlv1⟩ := len_one hlv0
                      obtain rfl := len_nil hlb1
                      obtain rfl := len_nil hlv1
                      replace h : MvS W7 w.heap.size M P Q l lag wp aL cL A sh fi vA m.2 b0 b1 (v0) (v1) W := h
                      clear hnd
                      have HST := Lib.hid h
                      skip
                      intro K Q hK
                      simp only [putE, updAll, Act.put, List.setIfInBounds_toArray, List.set_cons_zero, List.set_cons_succ, List.set_nil] at hK ⊢
                      refine wp_load_mid 41 (.tmp 145) rfl b (off + i * 35 + 31) rfl (actC m.2) _ (HMX.out W h.kp).act Try.underlying41 rfl actSize ?_
                      exact hK _ h
                    case q2_22 =>
                      intro bsE vsE W hlb hlv hnd hbk h
                      obtain ⟨b0, bsE0, rfl, hlb0⟩ := len_one hlb
                      obtain ⟨v0, vsE0, rfl, hlv0⟩ := len_one hlv
                      obtain ⟨b1, bsE1, rfl, hlb1⟩ := len_one hlb0
                      obtain ⟨v1, vsE1, rfl, hlv1⟩ := len_one hlv0
                      obtain rfl := len_nil hlb1
                      obtain rfl := len_nil hlv1
                      obtain rfl : b1 = false := hbk
                      replace h : MvS W7 w.heap.size M P Q l lag wp aL cL A sh fi vA m.2 b0 false (v0) (v1) W := h
                      clear hnd
                      have HST := Lib.hid h
                      skip
                      intro K Q hK
                      simp only [putE, updAll, Act.put, List.setIfInBounds_toArray, List.set_cons_zero, List.set_cons_succ, List.set_nil] at hK ⊢
                      go_wp2_with (go_at_call 10; refine (RMove_any h.rpF0 HLG.out HNL.out HAL.out m.2).mono ?_; rintro en w9 ⟨rfl, ⟨vA9, h9, -⟩, hk9⟩; have hm := h.mk1 h9 hk9)
                      all_goals (first | exact hK _ _ hm | exact hm)
                    case q2_23 =>
                      intro bsE vsE W hlb hlv hnd h
                      obtain ⟨b0, bsE0, rfl, hlb0⟩ := len_one hlb
                      obtain ⟨v0, vsE0, rfl, hlv0⟩ := len_one hlv
                      obtain ⟨b1, bsE1, rfl, hlb1⟩ := len_one hlb0
                      obtain ⟨v1, vsE1, rfl, hlv1⟩ := len_one hlv0
                      obtain rfl := len_nil hlb1
                      obtain rfl := len_nil hlv1
                      obtain rfl : b0 = true := hnd 0 (by simp)
                      obtain rfl : b1 = true := hnd 1 (by simp)
                      replace h : MvS W7 w.heap.size M P Q l lag wp aL cL A sh fi vA m.2 true true (v0) (v1) W := h
                      clear hnd
                      have HST := Lib.hid h
                      obtain rfl := h.e0 rfl; obtain rfl := h.e1 rfl
                      intro K Q hK
                      simp only [putE, updAll, Act.put, List.setIfInBounds_toArray, List.set_cons_zero, List.set_cons_succ, List.set_nil] at hK ⊢
                      go_wp2_with (fail)
                      all_goals (first | exact hK _ h | exact h)
                    case q2_27 =>
                      intro bsE vsE W hlb hlv hnd h
                      obtain ⟨b0, bsE0, rfl, hlb0⟩ := len_one hlb
                      obtain ⟨v0, vsE0, rfl, hlv0⟩ := len_one hlv
                      obtain ⟨b1, bsE1, rfl, hlb1⟩ := len_one hlb0
                      obtain ⟨v1, vsE1, rfl, hlv1⟩ := len_one hlv0
                      obtain rfl := len_nil hlb1
                      obtain rfl := len_nil hlv1
                      obtain rfl : b0 = true := hnd 0 (by simp)
                      replace h : MvS W7 w.heap.size M P Q l lag wp aL cL A sh fi vA m.2 true b1 (v0) (v1) W := h
                      clear hnd
                      have HST := Lib.hid h
                      skip
                      intro K Q hK
                      simp only [putE, updAll, Act.put, List.setIfInBounds_toArray, List.set_cons_zero, List.set_cons_succ, List.set_nil] at hK ⊢
                      go_wp2_with (go_at_call 11; refine (Closed_any (h.plT)).mono ?_; rintro en w9 ⟨rfl, hb9⟩)
                      all_goals (first | exact hK _ (h.step hb9) | exact (h.step hb9))
                    case q2_31 =>
                      intro bsE vsE W hlb hlv hnd h
                      obtain ⟨b0, bsE0, rfl, hlb0⟩ := len_one hlb
                      obtain ⟨v0, vsE0, rfl, hlv0⟩ := len_one hlv
                      obtain ⟨b1, bsE1, rfl, hlb1⟩ := len_one hlb0
                      obtain ⟨v1, vsE1, rfl, hlv1⟩ := len_one hlv0
                      obtain rfl := len_nil hlb1
                      obtain rfl := len_nil hlv1
                      obtain rfl : b1 = true := hnd 1 (by simp)
                      replace h : MvS W7 w.heap.size M P Q l lag wp aL cL A sh fi vA m.2 b0 true (v0) (v1) W := h
                      clear hnd
                      have HST := Lib.hid h
                      obtain ⟨v9, g9⟩ := h.rpT; have lq := (g9).lt; have s0 := blk_cell (o := 3) (g9).blk rfl; have s1 := blk_cell (o := 4) (g9).blk rfl; have s2 := blk_cell (o := 5) (g9).blk rfl
                      intro K Q hK
                      simp only [putE, updAll, Act.put, List.setIfInBounds_toArray, List.set_cons_zero, List.set_cons_succ, List.set_nil] at hK ⊢
                      go_wp2_with (fail)
                      all_goals (first | exact hK _ h | exact h)
                    case q2_32 =>
                      intro bsE vsE W hlb hlv hnd h
                      obtain ⟨b0, bsE0, rfl, hlb0⟩ := len_one hlb
                      obtain ⟨v0, vsE0, rfl, hlv0⟩ := len_one hlv
                      obtain ⟨b1, bsE1, rfl, hlb1⟩ := len_one hlb0
                      obtain ⟨v1, vsE1, rfl, hlv1⟩ := len_one hlv0
                      obtain rfl := len_nil hlb1
                      obtain rfl := len_nil hlv1
                      obtain rfl : b0 = true := hnd 0 (by simp)
                      obtain rfl : b1 = true := hnd 1 (by simp)
                      replace h : MvS W7 w.heap.size M P Q l lag wp aL cL A sh fi vA m.2 true true (v0) (v1) W := h
                      clear hnd
                      have HST := Lib.hid h
                      skip
                      intro K Q hK
                      simp only [putE, updAll, Act.put, List.setIfInBounds_toArray, List.set_cons_zero, List.set_cons_succ, List.set_nil] at hK ⊢
                      refine wp_tneq (newT l A lag m.2 sh) (.tmp 152) (.tmp 156) _ rfl rfl rfl ?_
                      exact hK _ h
                    case q2_36 =>
                      intro bsE vsE W hlb hlv hnd h
                      obtain ⟨b0, bsE0, rfl, hlb0⟩ := len_one hlb
                      obtain ⟨v0, vsE0, rfl, hlv0⟩ := len_one hlv
                      obtain ⟨b1, bsE1, rfl, hlb1⟩ := len_one hlb0
                      obtain ⟨v1, vsE1, rfl, hlv1⟩ := len_one hlv0
                      obtain rfl := len_nil hlb1
                      obtain rfl := len_nil hlv1
                      obtain rfl : b0 = true := hnd 0 (by simp)
                      replace h : MvS W7 w.heap.size M P Q l lag wp aL cL A sh fi vA m.2 true b1 (v0) (v1) W := h
                      clear hnd
                      have HST := Lib.hid h
                      skip
                      intro K Q hK
                      simp only [putE, updAll, Act.put, List.setIfInBounds_toArray, List.set_cons_zero, List.set_cons_succ, List.set_nil] at hK ⊢
                      go_wp2_with (go_at_call 14; refine (Path_any h.plT).mono ?_; rintro en w9 ⟨rfl, hb9⟩)
                      all_goals (first | exact hK _ (h.step hb9) | exact (h.step hb9))
                    case q2_38 =>
                      intro bsE vsE W hlb hlv hnd h
                      obtain ⟨b0, bsE0, rfl, hlb0⟩ := len_one hlb
                      obtain ⟨v0, vsE0, rfl, hlv0⟩ := len_one hlv
                      obtain ⟨b1, bsE1, rfl, hlb1⟩ := len_one hlb0
                      obtain ⟨v1, vsE1, rfl, hlv1⟩ := len_one hlv0
                      obtain rfl := len_nil hlb1
                      obtain rfl := len_nil hlv1
                      obtain rfl : b1 = true := hnd 1 (by simp)
                      replace h : MvS W7 w.heap.size M P Q l lag wp aL cL A sh fi vA m.2 b0 true (v0) (v1) W := h
                      clear hnd
                      have HST := Lib.hid h
                      obtain ⟨v9, g9⟩ := h.rpT
                      intro K Q hK
                      simp only [putE, updAll, Act.put, List.setIfInBounds_toArray, List.set_cons_zero, List.set_cons_succ, List.set_nil] at hK ⊢
                      go_wp2_with (go_at_call 15; refine (RPath_any g9).mono ?_; rintro en w9 ⟨rfl, hb9⟩)
                      all_goals (first | exact hK _ (h.step hb9) | exact (h.step hb9))
                    all_goals
                      intro bsE vsE W hlb hlv hnd h
                      obtain ⟨b0, bsE0, rfl, hlb0⟩ := len_one hlb
                      obtain ⟨v0, vsE0, rfl, hlv0⟩ := len_one hlv
                      obtain ⟨b1, bsE1, rfl, hlb1⟩ := len_one hlb0
                      obtain ⟨v1, vsE1, rfl, hlv1⟩ := len_one hlv0
                      obtain rfl := len_nil hlb1
                      obtain rfl := len_nil hlv1
                      replace h : MvS W7 w.heap.size M P Q l lag wp aL cL A sh fi vA m.2 b0 b1 (v0) (v1) W := h
                      clear hnd
                      have HST := Lib.hid h
                      skip
                      intro K Q hK
                      simp only [putE, updAll, Act.put, List.setIfInBounds_toArray, List.set_cons_zero, List.set_cons_succ, List.set_nil] at hK ⊢
                      go_wp2_with (fail)
                      all_goals (first | exact hK _ h | exact h)
                  case done =>
                    intro vsE W hlv h
                    obtain ⟨v0, vsE0, rfl, hlv0⟩ := len_one hlv
                    obtain ⟨v1, vsE1, rfl, hlv1⟩ := len_one hlv0
                    obtain rfl := len_nil hlv1
                    replace h : MvS W7 w.heap.size M P Q l lag wp aL cL A sh fi vA m.2 true true (v0) (v1) W := h
                    have HST := Lib.hid h
                    have HSS := Lib.hid h
                    clear h HST
                    simp only [putE, updAll, Act.put, List.setIfInBounds_toArray, List.set_cons_zero, List.set_cons_succ, List.set_nil]
                    obtain ⟨vA9, g9⟩ := HSS.out.rpT
                    have p9 := HSS.out.plT
                    have HL9 : Hid (LawS w M P Q l lag wp aL cL (A ++ [m.2]) (newT l A lag m.2 sh) (fi || m.2.2) vA9 W) := ⟨p9, g9, HSS.out.kp.below HBX.out HNW.out, HS.out.hM, HS.out.hL⟩
                    clear HSS p9 g9
                    go_wp2_with fail
                    exact ⟨⟨i + 1, by omega, by omega, by push_cast; rfl, ⟨_, _, _, _, HL9.out, by rw [List.length_append, HAI.out]; rfl⟩⟩, by simp [intOf]; omega⟩
              · have c2 : (i : Int) < ml.length := by omega
                have c3 : ¬ (i : Int) < 60 := by omega
                clear hd hc
                have HB0 := Lib.hid HS.out.bel
                clear HS
                go_wp2_with (go_at_call 4; refine (works5_any _).mono ?_; rintro e w9 ⟨rfl, hb9⟩; have HB9 := Lib.hid (bStep HB0.out hb9); clear hb9)
                exact bodyPost_ret (v := .bool true) (by simp only [results, Try.results3]; go_simp) rfl ⟨rfl, HB9.out⟩
            · have c2 : ¬ (i : Int) < ml.length := by omega
              clear hc
              have HB0 := Lib.hid HS.out.bel
              clear HS
              go_wp2_with (go_at_call 4; refine (works5_any _).mono ?_; rintro e w9 ⟨rfl, hb9⟩; have HB9 := Lib.hid (bStep HB0.out hb9); clear hb9)
              exact bodyPost_ret (v := .bool true) (by simp only [results, Try.results3]; go_simp) rfl ⟨rfl, HB9.out⟩
end Go.Proofs.Ytladkknbkgomfaa
