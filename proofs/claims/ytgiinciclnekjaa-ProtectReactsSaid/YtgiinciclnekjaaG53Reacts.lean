/-
  The law ProtectReacts: joined.
-/
import Derived.Test.YtgiinciclnekjaaG52Reacts
import Derived.Test.YtgiinciclnekjaaG50Reacts
import Derived.KernelRfl
set_option linter.unusedSimpArgs false
set_option linter.unusedVariables false
namespace Go.Proofs.Ytgiinciclnekjaa
open Sx Go.RowKit
theorem caD_seg {N cf fuel : Nat} {stops : List Nat} {k : List Kt} {o : Out} {σ : St} {y : SLeaf} {T : Tree SLeaf} (hE : T = evS tbl wr5 caD N cf stops fuel k o σ) (hA : AtG T y) : SegOk Try.prog N σ k o y := (seg_evS tbl_ok tbl_any caD_ok hE hA).1
/-- Behind a loop the changing slots are forgotten. -/
theorem seg_forget {N : Nat} {σ I σ' : St} {v : FVal} {a b : Nat} {l l' : Lf} {k : List Kt} {o : Out} {Φ : SLeaf → Prop} (hI : σ.apps (famW v 0 [.t a l, .t b l']) = some I) (hσ : σ.apps [.ft a, .ft b] = some σ') (h : SegTo Try.prog N σ' k o Φ) : SegTo Try.prog N I k o Φ := by
  refine ⟨fun C e ac w Q hR hQ => h.run C e ac w Q ?_ hQ⟩
  have h1 := (hR.ft a).ft b
  have e : (Wr.ft b).upd ((Wr.ft a).upd (Sx.look I)) = Sx.look σ' := by
    rw [look_apps hσ, look_apps hI]
    show _ = (Wr.ft b).upd ((Wr.ft a).upd (Sx.look σ))
    funext lc
    cases lc with
    | t n =>
      by_cases hb : n = b
      · subst hb; simp [Wr.upd, Wr.fn]
      · by_cases ha : n = a
        · subst ha; simp [Wr.upd, Wr.fn]
        · have : upds (Sx.look σ) (famW v 0 [.t a l, .t b l']) (.t n) = Sx.look σ (.t n) := fam_out (fun hin => by
            obtain ⟨p, hp, v', j, hs⟩ := hin
            simp only [List.mem_cons, List.not_mem_nil, or_false] at hp
            rcases hp with rfl | rfl
            · simp only [FamP.at_, if_neg ha] at hs; cases hs
            · simp only [FamP.at_, if_neg hb] at hs; cases hs)
          simp only [Wr.upd, Wr.fn, if_neg hb, if_neg ha, Option.getD_none]
          exact this
    | _ =>
      refine fam_out (fun hin => ?_)
      obtain ⟨p, hp, v', j, hs⟩ := hin
      simp only [List.mem_cons, List.not_mem_nil, or_false] at hp
      rcases hp with rfl | rfl <;> simp [FamP.at_] at hs
  rw [e] at h1
  exact h1
section
variable {b : Nat → Bool} {x : Nat → Int} {len cap : Nat} {f : Nat → Value}
theorem reT_eq : reT b x len cap f = evS tbl wr5 caD reF.ntmps 300 [0, 4] 300 [.code (cdOf 10)] .normal (lwE 10 b x len cap f) := by unfold reT; rfl
theorem reR1_eq (v : FVal) : reR1 b x len cap f v = evC tbl wr5 caD reF.ntmps [] 300 (reS b x len cap f).body (reI1 b x len cap f v) := by unfold reR1; rfl
theorem reR_eq (v : FVal) : reR b x len cap f v = evC tbl wr5 caD reF.ntmps [] 300 (reS b x len cap f).body (reI b x len cap f v) := by unfold reR; rfl
theorem reT0_eq (v : FVal) : reT0 b x len cap f v = evS tbl wr5 caD reF.ntmps 300 [0, 4] 300 (reK b x len cap f) .normal (reI b x len cap f v) := by unfold reT0; rfl
theorem reN_eq (kz : Bool) (v : FVal) (c : Nat) : reN b x len cap f kz v c = evS tbl wr5 caD reF.ntmps 300 [0, 4] 300 (reG b x len cap f kz v c).rest .normal (fgS (reG b x len cap f kz v c).st) := by unfold reN; rfl
theorem reR2_eq (kz : Bool) (v u : FVal) (c : Nat) : reR2 b x len cap f kz v u c = evC tbl wr5 caD reF.ntmps [] 300 (reG b x len cap f kz v c).body (reI2 b x len cap f kz v u c) := by unfold reR2; rfl
/-- Up to the second loop. -/
theorem re_up (hf : ∀ j, j < len → All2 Lf.ok lsTk (elAt f 27 j)) (h0 : 0 < len) {Φ : SLeaf → Prop} (h : ∀ v N, TrEnd x len f v N → SegTo Try.prog reF.ntmps (reI b x len cap f v) (reK b x len cap f) .normal Φ) :
    SegTo Try.prog reF.ntmps (lwE 10 b x len cap f) [.code (cdOf 10)] .normal Φ := by
  have hA := fun v => re_A b x len cap f v
  unfold reA crAX at hA
  simp only [Prod.mk.injEq] at hA
  have hUp := fun v => (hA v).1
  have hGo1 := fun v => (hA v).2.1
  have hGo := fun v => (hA v).2.2.1
  have hOut := fun v => (hA v).2.2.2
  clear hA
  obtain ⟨cs, y, hw, hg⟩ := selW_map (hUp (rvV crD1 (reS b x len cap f).st))
  simp only [Prod.mk.injEq] at hg
  obtain ⟨k1, k2, k3, k4, -, -, k7⟩ := hg
  have hat := selW_G hw (by rw [k1]; exact all_nil)
  obtain ⟨S, hS⟩ := Option.isSome_iff_exists.1 k2
  have hSe : reS b x len cap f = S := by unfold reS; rw [hw]; simp only [Option.map_some, Option.bind_some, hS, Option.getD_some]
  have hx := stpOf_at hS
  rw [← hSe, k3] at hx
  have hK : (reS b x len cap f).rest = reK b x len cap f := by unfold reK; rfl
  rw [hK] at hx
  refine (caD_seg reT_eq hat).then_ hx ?_
  refine seg_block ?_
  have fam1 : ∀ v, (reS b x len cap f).st.apps (famW v 0 crD1) = some (reI1 b x len cap f v) := fun v => by
    obtain ⟨cs, y, hw, hg⟩ := selW_map (hUp v)
    simp only [Prod.mk.injEq] at hg
    obtain ⟨I, hI⟩ := Option.isSome_iff_exists.1 hg.2.2.2.2.1
    unfold reI1
    rw [hI, Option.getD_some]
  have fam : ∀ v, (reS b x len cap f).st.apps (famW v 0 crD) = some (reI b x len cap f v) := fun v => by
    obtain ⟨cs, y, hw, hg⟩ := selW_map (hUp v)
    simp only [Prod.mk.injEq] at hg
    obtain ⟨I, hI⟩ := Option.isSome_iff_exists.1 hg.2.2.2.2.2.1
    unfold reI
    rw [hI, Option.getD_some]
  have hz0 : (rvV crD1 (reS b x len cap f).st).i 0 = (0 : Nat) := by rw [rvV_i, k7]; rfl
  refine SegTo.each (I := reI b x len cap f) (F := fun v => ∃ N, TrEnd x len f v N) (loop_peel (k := 0) (rest := reK b x len cap f) (body := (reS b x len cap f).body) crD1 crD (fun p hp => List.mem_append_left _ hp) (reI1 b x len cap f) (reI b x len cap f) fam1 fam k4 (fun v => ∃ N, 0 < N ∧ TrInv x len f v N) _ (fun v => ((len : Int) - v.i 0).toNat) ?_ (fun v hv => ?_)) (fun v hv => ?_)
  · obtain ⟨cs, y, hw, hg⟩ := wayR_map (hGo1 (rvV crD1 (reS b x len cap f).st))
    obtain ⟨w1, w2, w3⟩ := wayR_at hw
    simp only [Option.some.injEq, Prod.mk.injEq] at hg
    obtain ⟨g1, g2, g3⟩ := hg
    obtain ⟨r, hr, hr2⟩ := Option.map_eq_some_iff.1 g3
    simp only [Prod.mk.injEq] at hr2
    obtain ⟨r1, r2, r3⟩ := hr2
    obtain ⟨s1, s2⟩ := seg_evC tbl_ok tbl_any caD_ok (reR1_eq (rvV crD1 (reS b x len cap f).st)) (w1 (by rw [g1]; exact lwC_ok hz0 ⟨h0, Nat.zero_lt_succ 79⟩ hf))
    obtain ⟨q1, q2, q3⟩ := rv_row hr
    exact ⟨y, s1, s2, w2, w3, 1, by omega, tr_first hz0 h0 g2 (q1.trans r1) (q2.trans r2) (by rw [q3, r2]) r3⟩
  · obtain ⟨k, hk0, hi⟩ := hv
    have hii := hi.hi
    by_cases hk : k < len ∧ k < 80
    · obtain ⟨cs, y, hw, hg⟩ := wayR_map (hGo v)
      obtain ⟨w1, w2, w3⟩ := wayR_at hw
      simp only [Option.some.injEq, Prod.mk.injEq] at hg
      obtain ⟨g1, g2, g3⟩ := hg
      obtain ⟨r, hr, hr2⟩ := Option.map_eq_some_iff.1 g3
      simp only [Prod.mk.injEq] at hr2
      obtain ⟨r1, r2, r3⟩ := hr2
      obtain ⟨s1, s2⟩ := seg_evC tbl_ok tbl_any caD_ok (reR_eq v) (w1 (by
        rw [g1]
        intro c hc
        rcases List.mem_append.1 hc with hc | hc
        · exact lwC_ok hii hk hf c hc
        · unfold lwC2 at hc
          rw [hi.hn, hi.hm] at hc
          simp only [List.mem_cons, List.not_mem_nil, or_false] at hc
          rcases hc with rfl | rfl
          · exact decide_eq_true (Nat.le_refl _)
          · exact decide_eq_true ⟨by omega, by omega⟩))
      obtain ⟨q1, q2, q3⟩ := rv_row hr
      have hnx := tr_next hi hk (u := rvV crD y) g2 (q1.trans r1) (q2.trans r2) (by rw [q3, r2, r3])
      have := hnx.hi
      exact ⟨.normal, y, s1, s2, w2, w3, Or.inl ⟨rfl, ⟨k + 1, by omega, hnx⟩, by omega⟩⟩
    · obtain ⟨cs, y, hw, hg⟩ := wayR_map (hOut v)
      obtain ⟨w1, w2, w3⟩ := wayR_at hw
      simp only [Prod.mk.injEq] at hg
      obtain ⟨g1, g8⟩ := hg
      obtain ⟨r, hr, hr2⟩ := Option.map_eq_some_iff.1 g8
      simp only [Prod.mk.injEq] at hr2
      obtain ⟨r1, r2, r3⟩ := hr2
      obtain ⟨s1, s2⟩ := seg_evC tbl_ok tbl_any caD_ok (reR_eq v) (w1 (by
        rw [g1]
        intro c hc
        simp only [List.mem_cons, List.not_mem_nil, or_false] at hc
        have hl : lg80 len (v.i 0) = false := by
          cases hl : lg80 len (v.i 0) with
          | false => rfl
          | true => have := lg80_iff.1 hl; exfalso; apply hk; omega
        rw [hc, hl]; rfl))
      obtain ⟨q1, q2, q3⟩ := rv_row hr
      refine ⟨.exit 0, y, s1, s2, w2, w3, Or.inr ⟨rfl, k, ⟨⟨hk0, hi.hle⟩, by rw [q1, r1, hi.hn], by rw [q2, r2, hi.hm], fun o ho => ?_⟩⟩⟩
      rw [q3, r2, hi.hm, r3, cut_lt ho]
      exact hi.hf o ho
  · obtain ⟨N, hi⟩ := hv
    exact h v N hi
/-- What holds ahead of round k of a cause's loop. -/
structure ReInv (f : Nat → Value) (u : FVal) (N k c : Nat) : Prop where
  hi : u.i 0 = k
  hle : k ≤ N
  run : 0 ≤ u.i 1 ∧ u.i 1 ≤ k ∧ ∀ r : Nat, (k : Int) - u.i 1 ≤ r → r < k → bey (tkI f (r * 27)) c
theorem beB_iff {u : FVal} {k c : Nat} (hi : u.i 0 = k) : beB f u c = true ↔ bey (tkI f (k * 27)) c := by
  unfold beB bey
  rw [hi, show ((k : Int)).toNat = k from rfl, Nat.zero_add]
  by_cases hc : c = 2
  · subst hc
    rw [Nat.beq_refl, cond_true, if_pos rfl]
    by_cases h2 : 0 < tkI f (k * 27) 2
    · rw [decide_eq_true (show tkI f (k * 27) 2 > 0 from h2), cond_true, decide_eq_true_iff]
      exact ⟨fun h => ⟨h2, h⟩, fun h => h.2⟩
    · rw [decide_eq_false (show ¬ tkI f (k * 27) 2 > 0 from h2), cond_false]
      exact ⟨fun h => Bool.noConfusion h, fun h => absurd h.1 h2⟩
  · rw [beq_ff.2 hc, cond_false, if_neg hc, decide_eq_true_iff]
theorem run_next {u : FVal} {N k c : Nat} (h80 : k < 80) (hu : ReInv f u N k c) : 0 ≤ ruI f u c ∧ ruI f u c ≤ ((k + 1 : Nat) : Int) ∧ ∀ r : Nat, ((k + 1 : Nat) : Int) - ruI f u c ≤ r → r < k + 1 → bey (tkI f (r * 27)) c := by
  obtain ⟨h1, h2, h3⟩ := hu.run
  unfold ruI
  cases hb : beB f u c with
  | false => exact ⟨Int.le_refl _, by simp only [Bool.not_false, cond_true]; omega, fun r hr hr2 => by simp only [Bool.not_false, cond_true] at hr; omega⟩
  | true =>
    simp only [Bool.not_true, cond_false]
    rw [w64 (by omega)]
    refine ⟨by omega, by omega, fun r hr hr2 => ?_⟩
    rcases Nat.eq_or_lt_of_le (Nat.le_of_lt_succ hr2) with h | h
    · subst h; exact (beB_iff hu.hi).1 hb
    · exact h3 r (by omega) h
theorem mo_eq (hx : LfOk x) {c : Nat} (hc : c < 6) : moI x c = guN x (11 + c) + laI x ∧ erI' x = 0 := by
  have la := la_eq hx
  have d := gu_deb hx (i := c) (by omega)
  have hl : laI x = x 3 % 6 := la.1
  have hck : chkR (nOf (gsL (guN x))) = 0 := by
    have : chkR (nOf (gsL (guN x))) = chkR (guN x) := rfl
    rw [this, chk_gu hx]
  have hlg : lgB' x = false := by
    unfold lgB'
    rw [hl, decide_eq_false (by omega), decide_eq_false (by omega)]; rfl
  unfold moI erI'
  rw [hck, hlg]
  simp only [bne_self_eq_false, cond_false]
  refine ⟨w64 (by omega), trivial⟩
theorem re_bad {K A : Nat} {B : Bool} (hx : LfOk x) (hf : ∀ j, j < len → All2 Lf.ok lsTk (elAt f 27 j)) {v : FVal} {N : Nat} (hv : TrEnd x len f v N) {u : FVal} {k c : Nat} (hc : c < 6) (hu : ReInv f u N k c) (hk : k < N) (hK : K ≤ 6) (hA : A < 3) :
    (∀ d ∈ reDm K A B x len f v u c, d = true) ∧ reBad K A B x f v u c = false := by
  have hle := hv.hle
  have hi := hu.hi
  have hti : (u.i 0).toNat = k := by rw [hi]; rfl
  have la := la_eq hx
  have hL : laI x = ((x 3 % 6).toNat : Nat) := by unfold laI; rw [la.1]; omega
  have hmo : ∀ o, o < 10 → moF K A B x v u o = ((pM K A B (nOf (gsL (guN x))) (laI x) (v.f 1) (pN K A B (nOf (gsL (guN x))) (laI x) (v.f 1) k))[o]?).getD undef := fun o ho => by
    unfold moF
    rw [hti]
    exact mo_at _ _ _ ho
  have m9 : moF K A B x v u 9 = .bool (pQ K A B (nOf (gsL (guN x))) (laI x) (v.f 1) (pN K A B (nOf (gsL (guN x))) (laI x) (v.f 1) k)) := by rw [hmo 9 (by omega)]; rfl
  refine ⟨fun d hd => ?_, ?_⟩
  · unfold reDm at hd
    rcases List.mem_append.1 hd with hd | hd
    · have h27 := Nat.mul_le_mul_right 27 (show k + 1 ≤ len by omega)
      have htk := rows_isV (hf k (by omega)) rfl
      rw [Nat.zero_add] at htk
      rw [hi, hv.hn, show ((k : Int)).toNat = k from rfl, Nat.zero_add] at hd
      simp only [List.mem_cons, List.not_mem_nil, or_false] at hd
      rcases hd with rfl | rfl | rfl | rfl
      · exact decide_eq_true (by omega)
      · exact decide_eq_true ⟨by omega, by omega⟩
      · exact decide_eq_true (by omega)
      · exact htk
    · obtain ⟨d', hd', rfl⟩ := List.mem_map.1 hd
      have : d' = true := by
        simp only [List.mem_cons, List.not_mem_nil, or_false] at hd'
        rcases hd' with rfl | rfl | rfl
        · unfold inB; rw [hi, hv.hn]; exact decide_eq_true ⟨by omega, by omega⟩
        · rw [hti, hv.hn]; exact decide_eq_true (by omega)
        · rw [m9]; rfl
      rw [this, Bool.or_true]
  · unfold reBad
    obtain ⟨r1, r2, r3⟩ := run_next (by omega) hu
    by_cases hr : ruI f u c ≥ moI x c
    · rw [decide_eq_true hr, m9]
      rw [(mo_eq hx hc).1] at hr
      have d := gu_deb hx (i := c) (by omega)
      obtain ⟨R, hR⟩ := Int.eq_ofNat_of_zero_le r1
      rw [hR] at hr r2 r3
      have hkl : (x 3 % 6).toNat ≤ k := by omega
      exact path_open K A B _ _ _ (x 3 % 6).toNat hL (by omega) hK hkl (react_off hA hx hf hle.2.1 hle.2.2 hv.hf hc (show k - (x 3 % 6).toNat < N by omega) (R := R - (x 3 % 6).toNat) (by omega) (by omega) (fun r h1 h2 => r3 r (by omega) (by omega)))
    · rw [decide_eq_false hr]; rfl
/-- The loop of one cause. -/
theorem re_loop {kz : Bool} {K A : Nat} {B : Bool} (hx : LfOk x) (hf : ∀ j, j < len → All2 Lf.ok lsTk (elAt f 27 j)) {v : FVal} {N : Nat} (hv : TrEnd x len f v N) (hK : K ≤ 6) (hA : A < 3) {c : Nat} (hc : c < 6) {T : Tree SLeaf} {p : List Bool} {D : List Bool}
    (hU : ∀ u, reU b x len cap f kz v u c T p = some (D, true, 4, true, true, true, 0, 0)) (hL : ∀ u, reL b x len cap f kz v u c = reLX x len f v u K A B c)
    {Φ : SLeaf → Prop} (ht : SegTo Try.prog reF.ntmps (fgS (reG b x len cap f kz v c).st) (reG b x len cap f kz v c).rest .normal Φ) :
    SegTo Try.prog reF.ntmps (reG b x len cap f kz v c).st (.code (.block 4 (.loop (reG b x len cap f kz v c).body)) :: (reG b x len cap f kz v c).rest) .normal Φ := by
  have hle := hv.hle
  unfold reU at hU
  have hL' := hL
  unfold reL reLX at hL'
  simp only [Prod.mk.injEq] at hL'
  have hGo := fun u => (hL' u).1
  have hOut := fun u => (hL' u).2
  clear hL hL'
  obtain ⟨cs, y, hw, hg⟩ := selW_map (hU ⟨fun _ => false, fun _ => 0, fun _ => 0, fun _ => 0, fun _ _ => undef⟩)
  simp only [Prod.mk.injEq] at hg
  obtain ⟨-, -, -, k4, -, k6, k7, k8⟩ := hg
  have fam : ∀ u, (reG b x len cap f kz v c).st.apps (famW u 0 reD2) = some (reI2 b x len cap f kz v u c) := fun u => by
    obtain ⟨cs, y, hw, hg⟩ := selW_map (hU u)
    simp only [Prod.mk.injEq] at hg
    obtain ⟨I, hI⟩ := Option.isSome_iff_exists.1 hg.2.2.2.2.1
    unfold reI2
    rw [hI, Option.getD_some]
  have hfg : (reG b x len cap f kz v c).st.apps [.ft 13, .ft 12] = some (fgS (reG b x len cap f kz v c).st) := by
    obtain ⟨I, hI⟩ := Option.isSome_iff_exists.1 k6
    unfold fgS
    rw [hI, Option.getD_some]
  refine seg_block ?_
  refine loop_then (k := 4) (rest := (reG b x len cap f kz v c).rest) (body := (reG b x len cap f kz v c).body) reD2 (σ := (reG b x len cap f kz v c).st) (fun u => reI2 b x len cap f kz v u c) fam k4 (fun u => ∃ k, ReInv f u N k c) (fun _ => True) (fun u => ((N : Int) - u.i 0).toNat) ⟨0, ?_⟩ (fun u hu => ?_) (fun u _ => seg_forget (fam u) hfg ht)
  · refine ⟨by rw [rvV_i, k7]; rfl, Nat.zero_le _, ?_⟩
    rw [rvV_i, k8]; exact ⟨by omega, by omega, fun r h1 h2 => by omega⟩
  · obtain ⟨k, hu⟩ := hu
    have hi := hu.hi
    by_cases hk : k < N
    · obtain ⟨cs, y, hw, hg⟩ := wayR_map (hGo u)
      obtain ⟨w1, w2, w3⟩ := wayR_at hw
      simp only [Prod.mk.injEq] at hg
      obtain ⟨g1, g2, g3⟩ := hg
      obtain ⟨d1, d2⟩ := re_bad (K := K) (A := A) (B := B) hx hf hv hc hu hk hK hA
      obtain ⟨s1, s2⟩ := seg_evC tbl_ok tbl_any caD_ok (reR2_eq kz v u c) (w1 (by
        rw [g1]
        intro d hd
        rcases List.mem_append.1 hd with hd | hd
        · exact d1 d hd
        · simp only [List.mem_cons, List.not_mem_nil, or_false] at hd
          rw [hd, d2]; rfl))
      have e0 : (rvV reD2 y).i 0 = u.i 0 + 1 := by
        rw [rvV_i, g2, hi]
        exact w64 (by omega)
      have e1 : (rvV reD2 y).i 1 = ruI f u c := by rw [rvV_i, g3]
      have rn := run_next (by omega) hu
      exact ⟨.normal, y, s1, s2, w2, w3, Or.inl ⟨rfl, ⟨k + 1, by rw [e0, hi]; omega, hk, by rw [e1]; exact rn⟩, by omega⟩⟩
    · have hkn : k = N := Nat.le_antisymm hu.hle (by omega)
      obtain ⟨cs, y, hw, hg⟩ := wayR_map (hOut u)
      obtain ⟨w1, w2, w3⟩ := wayR_at hw
      simp only at hg
      obtain ⟨s1, s2⟩ := seg_evC tbl_ok tbl_any caD_ok (reR2_eq kz v u c) (w1 (by
        rw [hg]
        intro d hd
        simp only [List.mem_cons, List.not_mem_nil, or_false] at hd
        rw [hd, hv.hn, decide_eq_false (by omega)]; rfl))
      exact ⟨.exit 4, y, s1, s2, w2, w3, Or.inr ⟨rfl, trivial⟩⟩
/-- Where a tree stops at a cause's loop. -/
theorem re_stop {kz : Bool} {v : FVal} {c : Nat} {T : Tree SLeaf} {p : List Bool} {D : List Bool} (hG : reG b x len cap f kz v c = stA' T p) (hU : ∀ u, reU b x len cap f kz v u c T p = some (D, true, 4, true, true, true, 0, 0)) (hD : ∀ d ∈ D, d = true) :
    AtG T (.wait (.code (.block 4 (.loop (reG b x len cap f kz v c).body)) :: (reG b x len cap f kz v c).rest), (reG b x len cap f kz v c).st) := by
  unfold reU at hU
  obtain ⟨cs, y, hw, hg⟩ := selW_map (hU ⟨fun _ => false, fun _ => 0, fun _ => 0, fun _ => 0, fun _ _ => undef⟩)
  simp only [Prod.mk.injEq] at hg
  obtain ⟨k1, k2, k3, -⟩ := hg
  have hat := selW_G hw (by rw [k1]; exact hD)
  obtain ⟨S, hS⟩ := Option.isSome_iff_exists.1 k2
  have hSe : reG b x len cap f kz v c = S := by rw [hG]; unfold stA'; rw [hw]; simp only [Option.map_some, Option.bind_some, hS, Option.getD_some]
  have hxx := stpOf_at hS
  rw [← hSe, k3] at hxx
  rw [← hxx]
  exact hat
theorem re_fin {kz : Bool} {K A : Nat} {B : Bool} (hx : LfOk x) (hf : ∀ j, j < len → All2 Lf.ok lsTk (elAt f 27 j)) {v : FVal} {N : Nat} (hv : TrEnd x len f v N) (hK : K ≤ 6) (hA : A < 3) (hfd : ∀ d ∈ fdB b x kz, d = true)
    (hU0 : ∀ u, reU b x len cap f kz v u 0 (reT0 b x len cap f v) [kz, false, false] = some (fdD b x kz v, true, 4, true, true, true, 0, 0))
    (hU : ∀ c, c < 5 → ∀ u, reU b x len cap f kz v u (c + 1) (reN b x len cap f kz v c) [false] = some ([!(erI' x != 0)], true, 4, true, true, true, 0, 0))
    (hL : ∀ c, c < 6 → ∀ u, reL b x len cap f kz v u c = reLX x len f v u K A B c)
    (hE : (selW [] (reN b x len cap f kz v 5)).map (fun r => (r.1, retB 10 r.2)) = some ([], some true)) :
    SegTo Try.prog reF.ntmps (reI b x len cap f v) (reK b x len cap f) .normal (LwEnd 10) := by
  have hle := hv.hle
  have er := (mo_eq hx (show 0 < 6 by omega)).2
  have hD : ∀ d ∈ [!(erI' x != 0)], d = true := fun d hd => by
    obtain rfl := List.mem_singleton.1 hd
    rw [er]; rfl
  have htru : ∀ r, r < N → truOk (v.f 1) r = true := fun r hr => row_ok hx hf hle.2.1 hv.hf hr
  have la := la_eq hx
  have hpl : plDem (nOf (gsL (guN x))) (laI x) (v.n 1) (v.m 1) = true := by
    unfold plDem
    rw [Bool.and_eq_true, Bool.and_eq_true, hv.hn, hv.hm]
    refine ⟨?_, decide_eq_true ?_, decide_eq_true ⟨hle.1, by omega, Nat.le_refl _⟩⟩
    · have : chkR (nOf (gsL (nOf (gsL (guN x))))) = chkR (guN x) := rfl
      rw [this, chk_gu hx]; rfl
    · show 0 ≤ laI x ∧ laI x ≤ 5
      unfold laI; rw [la.1]; exact la.2
  have tail : ∀ j, j < 6 → SegTo Try.prog reF.ntmps (fgS (reG b x len cap f kz v (5 - j)).st) (reG b x len cap f kz v (5 - j)).rest .normal (LwEnd 10) := by
    intro j
    induction j with
    | zero =>
      intro _
      obtain ⟨cs, y, hw, hg⟩ := selW_map hE
      simp only [Prod.mk.injEq] at hg
      obtain ⟨q1, q2⟩ := hg
      have hat := selW_G hw (by rw [q1]; exact all_nil)
      exact (caD_seg (reN_eq kz v 5) hat).to (retB_end q2)
    | succ j ih =>
      intro hj
      have t := ih (by omega)
      obtain ⟨c, hc⟩ : ∃ c, c = 5 - (j + 1) := ⟨_, rfl⟩
      rw [← hc]
      rw [show 5 - j = c + 1 by omega] at t
      have hat := re_stop (c := c + 1) rfl (hU c (by omega)) hD
      exact (caD_seg (reN_eq kz v c) hat).then_ rfl (re_loop hx hf hv hK hA (by omega) (hU c (by omega)) (hL (c + 1) (by omega)) t)
  have hat := re_stop (c := 0) rfl hU0 (fun d hd => by
    unfold fdD at hd
    rcases List.mem_append.1 hd with hd | hd
    · exact hfd d hd
    · simp only [List.mem_cons, List.not_mem_nil, or_false] at hd
      rcases hd with rfl | rfl | rfl | rfl
      · exact hpl
      · rw [hv.hn]; exact List.all_eq_true.2 fun j hj => htru j (List.mem_range.1 hj)
      · simp
      · exact hD _ (List.mem_singleton.2 rfl))
  exact (caD_seg (reT0_eq v) hat).then_ rfl (re_loop hx hf hv hK hA (by omega) hU0 (hL 0 (by omega)) (tail 5 (by omega)))
theorem re_seg (hx : LfOk x) (hf : ∀ j, j < len → All2 Lf.ok lsTk (elAt f 27 j)) (h0 : 0 < len) :
    SegTo Try.prog reF.ntmps (lwE 10 b x len cap f) [.code (cdOf 10)] .normal (LwEnd 10) := by
  refine re_up hf h0 fun v N hv => ?_
  have k := kd_eq hx
  have a := pa_eq hx
  cases hk : (kdI x == 0) with
  | true =>
    exact re_fin (K := 0) (A := 0) (B := false) hx hf hv (by omega) (by omega) (fd_ok hx hk.symm) (fun u => re_U0_0 b x len cap f v u)
      (fun c hc u => by match c, hc with
        | 0, _ => exact re_U0_1 b x len cap f v u
        | 1, _ => exact re_U0_2 b x len cap f v u
        | 2, _ => exact re_U0_3 b x len cap f v u
        | 3, _ => exact re_U0_4 b x len cap f v u
        | 4, _ => exact re_U0_5 b x len cap f v u)
      (fun c hc u => by match c, hc with
        | 0, _ => exact re_L0_0 b x len cap f v u
        | 1, _ => exact re_L0_1 b x len cap f v u
        | 2, _ => exact re_L0_2 b x len cap f v u
        | 3, _ => exact re_L0_3 b x len cap f v u
        | 4, _ => exact re_L0_4 b x len cap f v u
        | 5, _ => exact re_L0_5 b x len cap f v u)
      (re_E0 b x len cap f v)
  | false =>
    exact re_fin (K := (kdI x).toNat) (A := (plaI x).toNat) (B := alB b x) hx hf hv (by omega) (by omega) (fd_ok hx hk.symm) (fun u => re_U1_0 b x len cap f v u)
      (fun c hc u => by match c, hc with
        | 0, _ => exact re_U1_1 b x len cap f v u
        | 1, _ => exact re_U1_2 b x len cap f v u
        | 2, _ => exact re_U1_3 b x len cap f v u
        | 3, _ => exact re_U1_4 b x len cap f v u
        | 4, _ => exact re_U1_5 b x len cap f v u)
      (fun c hc u => by match c, hc with
        | 0, _ => exact re_L1_0 b x len cap f v u
        | 1, _ => exact re_L1_1 b x len cap f v u
        | 2, _ => exact re_L1_2 b x len cap f v u
        | 3, _ => exact re_L1_3 b x len cap f v u
        | 4, _ => exact re_L1_4 b x len cap f v u
        | 5, _ => exact re_L1_5 b x len cap f v u)
      (re_E1 b x len cap f v)
end
end Go.Proofs.Ytgiinciclnekjaa

/-
  A life that is handed over.
-/
set_option linter.unusedSimpArgs false
set_option linter.unusedVariables false
namespace Go.Proofs.Ytgiinciclnekjaa
open Sx Go.RowKit
set_option maxRecDepth 100000
noncomputable def fsL : Array Field := match tbl.und 114 with
  | some (.struct fs) => fs
  | _ => #[]
noncomputable def flL : Field := (fsL.toList.getLast?).getD ⟨"", 0, 0, false, "", "", 0⟩
theorem life_open {H : Type} {enc : TypeId × Value → H} {w : World} {base : Nat} {spare : Nat → Bool} {held : Bool} {v : Value} {dt : DataW H} {ps : List MemPlace} {r : Reach} {b0 : Nat} (hv : Value.okWide Try.prog w r b0 114 v) (h : DataW.Trod enc Try.prog w base spare held 114 v dt ps) :
    ∃ (bs : Nat → Bool) (ns : Nat → Int) (x : Value), v = .agg ((symL bs ns 0 lsLf).map (·.den env0) ++ [x]).toArray ∧ WfL ns lsLf ∧ RowIs w 27 lsTk x :=
  open_last (fs := fsL) (fs0 := fsL.toList.take 7) (fl := flL) (ls := lsLf) (lse := lsTk) (te := 124) (i := Try.t124) tbl_ok (by kernel_rfl) (by kernel_rfl) (by kernel_rfl) (by kernel_rfl) (by rw [cellsOf_info tbl_ok (i := Try.t114) (by kernel_rfl)]; kernel_rfl) (by rw [cellsOf_info tbl_ok (i := Try.t112) (by kernel_rfl)]; kernel_rfl) (by kernel_rfl) (by kernel_rfl) (by kernel_rfl) (by decide) hv h
end Go.Proofs.Ytgiinciclnekjaa
