/-
 Rules for the evaluator: names, numbers in decimal, texts that are joined; the examples' text.
-/
import Derived.Test.YtmpilgkfbibhlaaGreatDoorG2Verifies
import Derived.Test.YtmpilgkfbibhlaaGreatDoorG3Verifies
import Derived.Test.YtmpilgkfbibhlaaGreatDoorG6Verifies
import Derived.Test.YtmpilgkfbibhlaaGreatDoorG7Verifies
import Derived.Test.YtmpilgkfbibhlaaGreatDoorG8Verifies
import Derived.Lib.AppendIntMem
set_option linter.unusedSimpArgs false
set_option linter.unusedVariables false
namespace Go.Proofs.YtmpilgkfbibhlaaGreatDoor
open Sx Go.RowKit
theorem fmt_any (n : Int) (h0 : -9223372036854775808 ≤ n) (h1 : n ≤ 9223372036854775807) (w : World) (hG : GlobP w) :
  Calls Tryz.prog 88 #[.int .i64 n, .int .i64 10] w fun e w' => e = .returned (.string ⟨(Lib.itoa n).toArray⟩) ∧ Below w.heap.size w w' := by
 refine (Any.strconv_FormatInt_10 laysM173 n h0 h1 w hG.tab).mono fun e w' => ?_
 rintro ⟨rfl, k, os, rfl⟩
 exact ⟨rfl, Lib.below_grow _ _ (Nat.le_refl _) _ _⟩
theorem join_any (bk o c : Nat) (xs : List ByteArray) (sep : ByteArray) (w : World) (hcells : ∀ (j : Nat) x, xs[j]? = some x → w.cell? ⟨bk, o + j, none⟩ = some (.string x)) (hbk : bk < w.heap.size) (hN : xs.length ≤ 140737488355328) (hcap : xs.length ≤ c) (hlen : (Lib.join (xs.map (·.data.toList)) sep.data.toList).length ≤ 140737488355328) :
  Calls Tryz.prog 89 #[.slice (some ⟨bk, o, none⟩) xs.length c, .string sep] w fun e w' => e = .returned (.string ⟨(Lib.join (xs.map (·.data.toList)) sep.data.toList).toArray⟩) ∧ Below w.heap.size w w' :=
 Any.strings_Join lays156 Builder_Extra_156 bk o c xs sep w hcells hbk hN hcap hlen
def nmRule : List Sv → St → Tree FLeaf
 | [.one (.s v l)], σ => .must (decide (v.size ≤ 9223372036854775807)) (.leaf (.one (.b (nameB v) l), σ))
 | _, _ => .fail
theorem nmRule_ok {args : List Sv} {σ : St} {y : FLeaf} (hy : (nmRule args σ).At y) : FunOk Tryz.prog 39 args σ y.1 y.2 := by
 unfold nmRule at hy
 split at hy
 ·rename_i v l
  obtain ⟨h1, h2⟩ := hy
  obtain rfl : _ = y := h2
  exact FunOk.of_any rfl fun e w => isName_any v w (of_decide_eq_true h1)
 ·exact hy.elim
def fmRule : List Sv → St → Tree FLeaf
 | [.one (.i .i64 n l), .one (.i .i64 10 _)], σ => .must (decide (-9223372036854775808 ≤ n ∧ n ≤ 9223372036854775807)) (.leaf (.one (.s ⟨(Lib.itoa n).toArray⟩ l), σ))
 | _, _ => .fail
theorem fmRule_ok {args : List Sv} {σ : St} {y : FLeaf} (hy : (fmRule args σ).At y) : FunOk Tryz.prog 88 args σ y.1 y.2 := by
 unfold fmRule at hy
 split at hy
 ·rename_i n l l2
  obtain ⟨h1, h2⟩ := hy
  obtain rfl : _ = y := h2
  obtain ⟨a, b⟩ := of_decide_eq_true h1
  exact FunOk.of_anyG rfl fun e w hG => fmt_any n a b w hG.1
 ·exact hy.elim
def strs : List Cv → Option (List ByteArray)
 | [] => some []
 | .s v _ :: cs => (strs cs).map (v :: ·)
 | _ :: _ => none
theorem strs_at : ∀ {cs : List Cv} {xs : List ByteArray}, strs cs = some xs → cs.length = xs.length ∧ ∀ (e : Env) (j : Nat) x, xs[j]? = some x → ∃ c, cs[j]? = some c ∧ c.den e = .string x
 | [], xs, h => by
  obtain rfl := Option.some.inj h
  exact ⟨rfl, fun e j x hx => by simp at hx⟩
 | c :: cs, xs, h => by
  cases c with
  | s v l =>
   obtain ⟨ys, hys, rfl⟩ := Option.map_eq_some_iff.1 (show (strs cs).map (v :: ·) = some xs from h)
   obtain ⟨h1, h2⟩ := strs_at hys
   refine ⟨by simp [h1], fun e j x hx => ?_⟩
   cases j with
   | zero =>
    obtain rfl : v = x := by simpa using hx
    exact ⟨_, rfl, rfl⟩
   | succ j => exact h2 e j x (by simpa using hx)
  | _ => cases h
def capIs (σ : St) (id n : Nat) : Sn → Bool
 | .lit c => Nat.ble n c
 | .nam c => capOf σ id c 1 n
 | .opq _ => false
def jnRule : List Sv → St → Tree FLeaf
 | [.one (.slc id (.lit off) (.lit n) cap), .one (.s sep _)], σ => match alook σ.bk id with
  | some (.ar _ _ l _) => match strs ((l.drop off).take n), Nat.ble (off + n) l.length && capIs σ id n cap with
   | some xs, true => .must (decide (n ≤ 140737488355328 ∧ (Lib.join (xs.map (·.data.toList)) sep.data.toList).length ≤ 140737488355328)) (.leaf (.one (.s ⟨(Lib.join (xs.map (·.data.toList)) sep.data.toList).toArray⟩ true), σ))
   | _, _ => .fail
  | _ => .fail
 | _, _ => .fail
theorem jnRule_ok {args : List Sv} {σ : St} {y : FLeaf} (hy : (jnRule args σ).At y) : FunOk Tryz.prog 89 args σ y.1 y.2 := by
 unfold jnRule at hy
 split at hy
 ·rename_i id off n cap sep l
  split at hy
  ·rename_i t ro cs cp hb
   split at hy
   ·rename_i xs hxs hc
    simp only [Bool.and_eq_true] at hc
    obtain ⟨hle, hcp⟩ := hc
    rw [Nat.ble_eq] at hle
    obtain ⟨h1, h2⟩ := hy
    obtain rfl : _ = y := h2
    obtain ⟨a, b⟩ := of_decide_eq_true h1
    obtain ⟨k1, k2⟩ := strs_at hxs
    have hxl : xs.length = n := by rw [← k1, List.length_take, List.length_drop]; omega
    refine FunOk.of_w rfl fun C e w hp ha => ?_
    have hk : Sx.look σ (.k id) = some (.bk (.ar t ro cs.length cp)) := by simp only [Sx.look, hb]; rfl
    have hcap : n ≤ cap.den e := by
     cases cap with
     | lit c => exact Nat.le_of_ble_eq_true hcp
     | nam c => exact (capOf_le hcp hp rfl).1
     | opq c => cases hcp
    have h3 := join_any (e.pl id).1 ((e.pl id).2 + off) (cap.den e) xs sep w (fun j x hx => by
     obtain ⟨c, hc, hd⟩ := k2 e j x hx
     have hjn : j < n := by rw [← hxl]; exact (List.getElem?_eq_some_iff.1 hx).1
     rw [List.getElem?_take_of_lt hjn, List.getElem?_drop] at hc
     have hl : Sx.look σ (.c id (off + j)) = some (.cv c) := by simp only [Sx.look, hb, Option.bind_some, Blk.cell, hc, Option.map_some]
     obtain ⟨_, _, h5⟩ := hp.cl _ _ _ hl
     rw [hd] at h5
     unfold Env.ad at h5
     rw [← Nat.add_assoc] at h5
     exact h5) (hp.lt id _ hk rfl) (by omega) (by omega) b
    rw [hxl] at h3
    exact h3
   ·exact hy.elim
  ·exact hy.elim
 ·exact hy.elim
def spD (f : FuncId) : Option (List Sv → St → Tree FLeaf) := match Nat.beq f 39 with
 | true => some nmRule
 | false => match Nat.beq f 88 with
  | true => some fmRule
  | false => match Nat.beq f 89 with
   | true => some jnRule
   | false => none
theorem spD_ok : SpOk Tryz.prog spD := by
 intro f g hf args σ y hy
 unfold spD at hf
 split at hf
 ·rename_i h; obtain rfl := beq_iff'.1 h
  obtain rfl := Option.some.inj hf; exact nmRule_ok hy
 ·split at hf
  ·rename_i h; obtain rfl := beq_iff'.1 h
   obtain rfl := Option.some.inj hf; exact fmRule_ok hy
  ·split at hf
   ·rename_i h; obtain rfl := beq_iff'.1 h
    obtain rfl := Option.some.inj hf; exact jnRule_ok hy
   ·cases hf
def exE : List Cv := [.i .i64 1 true, .i .i64 5 true, .i .i64 1000 true, .i .i64 2 true, .s ⟨#[98, 49]⟩ true, .s ⟨#[]⟩ true]
def exS : ByteArray := ⟨#[109, 97, 100, 101, 32, 53, 32, 49, 48, 48, 48, 32, 50, 32, 98, 49]⟩
def okV (p : Sv → Bool) : Tree FLeaf → Bool
 | .leaf y => p y.1
 | .must b t => b && okV p t
 | .br b t f => bif b then okV p t else okV p f
 | .fail => false
theorem okV_at {p : Sv → Bool} : ∀ {T : Tree FLeaf}, okV p T = true → ∃ y, T.At y ∧ p y.1 = true
 | .leaf y, h => ⟨y, rfl, h⟩
 | .must b t, h => by
  obtain ⟨h1, h2⟩ := Bool.and_eq_true_iff.1 (show (b && okV p t) = true from h)
  obtain ⟨y, h3, h4⟩ := okV_at h2
  exact ⟨y, ⟨h1, h3⟩, h4⟩
 | .br b t f, h => by
  have h' : (bif b then okV p t else okV p f) = true := h
  cases b with
  | true => obtain ⟨y, h3, h4⟩ := okV_at (T := t) h'; exact ⟨y, Or.inl ⟨rfl, h3⟩, h4⟩
  | false => obtain ⟨y, h3, h4⟩ := okV_at (T := f) h'; exact ⟨y, Or.inr ⟨rfl, h3⟩, h4⟩
theorem okV_fun {P : Program} {tb : Tb} {wf : List FuncId} {sp : FuncId → Option (List Sv → St → Tree FLeaf)} {fuel d f : Nat} (hT : TbOk P tb) (hm : P.follows .mixedOrders = true) (hs : SpOk P sp) {args : List Sv} {p : Sv → Bool}
  (h : okV p (evFn tb wf sp fuel d f args st0) = true) : ∃ y : FLeaf, p y.1 = true ∧ FunOk P f args st0 y.1 y.2 := by
 obtain ⟨y, h1, h2⟩ := okV_at h
 exact ⟨y, h2, evFn_at hT hm hs h1⟩
def isEx : Sv → Bool
 | .tup [(false, [.s x _]), (false, [.i .i64 n _])] => (x.data.toList == exS.data.toList) && decide (n = 0)
 | _ => false
theorem isEx_at {v : Sv} (h : isEx v = true) : ∃ l l2, v = .tup [(false, [.s exS l]), (false, [.i .i64 0 l2])] := by
 unfold isEx at h
 split at h
 ·rename_i x l n l2
  rw [Bool.and_eq_true] at h
  obtain ⟨h1, h2⟩ := h
  obtain rfl := of_decide_eq_true h2
  have h3 := eq_of_beq h1
  obtain ⟨d⟩ := x
  have h4 : d = exS.data := Array.toList_inj.1 h3
  exact ⟨l, l2, by rw [h4]⟩
 ·cases h
set_option maxRecDepth 100000 in
theorem exText : okV isEx (evFn tbl [90] spD 300 12 37 [.agg exE] st0) = true := by kernel_rfl
def exV : Value := .agg #[.int .i64 1, .int .i64 5, .int .i64 1000, .int .i64 2, .string ⟨#[98, 49]⟩, .string ⟨#[]⟩]
theorem exText_any (w : World) (hG : Glob0 w) : Calls Tryz.prog 37 #[exV] w fun e w' => e = .returned (.tuple #[.string exS, .int .i64 0]) ∧ Below w.heap.size w w' := by
 obtain ⟨y, h2, h1⟩ := okV_fun tbl_ok tbl_any spD_ok exText
 obtain ⟨l, l2, h3⟩ := isEx_at h2
 have h4 := h1.any (fun x hx => by
  obtain rfl := List.mem_singleton.1 hx
  rfl) (by rw [h3]; rfl) w hG
 rw [h3] at h4
 exact h4
end Go.Proofs.YtmpilgkfbibhlaaGreatDoor
namespace Go.Proofs.YtmpilgkfbibhlaaGreatDoor
open Go.RowKit
theorem BytV.at_ {a : Option Addr} {m : List Nat} {W : World} (h : BytV a m W) : BytAt a m W.heap.size W.heap.size W := fun hn => by
 obtain ⟨b, off, rfl, h1, h2⟩ := h hn
 exact ⟨b, off, rfl, ⟨h1, by omega⟩, h2⟩
theorem digest_any (p b x bf off cap : Nat) (a : Option Addr) (m : List Nat) (w : World) (hp0 : 0 < p) (hp : p < 2147483648) (hx : x < 2147483648) (hb1 : 1 ≤ b) (hb3 : b ≤ 3) (hB : Byt m) (hlen : m.length ≤ 2000)
  (hbf : bf < w.heap.size) (hP : w.cell? ⟨bf, off, none⟩ = some (.int .u64 p)) (hQ : w.cell? ⟨bf, off + 1, none⟩ = some (.int .i64 b)) (hA : BytV a m w) :
  Calls Tryz.prog 41 #[.pointer (some ⟨bf, off, none⟩), .int .u64 x, .slice a m.length cap] w fun e w' => e = .returned (.int .u64 (dig p b x m)) ∧ Below w.heap.size w w' :=
 callsIn_wide.1 (digest_in p b x bf off cap a m w hp0 hp hx hb1 hb3 hB hlen hbf hP hQ hA.at_)
set_option maxHeartbeats 1000000 in
set_option maxRecDepth 20000 in
theorem Digest_any (n : Int) (x c : Nat) (a : Option Addr) (m : List Nat) (w : World) (hx : x < 18446744073709551616) (hB : Byt m) (hlen : m.length ≤ 2000) (hA : BytV a m w) :
  Calls Tryz.prog 36 #[.int .i64 n, .int .u64 x, .slice a m.length c] w fun e w' => e = .returned (.tuple #[.int .u64 (digR n x m).1, .int .i64 (digR n x m).2]) ∧ Below w.heap.size w w' := by
 unfold digR
 rcases fi_cases n with ⟨hn, hf⟩ | ⟨i, hi, rfl, hf⟩
 ·rw [hf]
  have C := Lib.hid (fun w => fieldOf_none n hn w)
  clear hn hf
  go_enter Tryz.func36, Tryz.ntmps36
  go_wp2_with (go_at_call 86; refine (C.out _).mono ?_; rintro e w1 ⟨rfl, hb⟩)
  exact bodyPost_ret (v := .tuple #[.int .u64 0, .int .i64 2]) (by simp only [results, Tryz.results36]; go_simp) rfl ⟨rfl, (by repeat' (first | exact Below.refl _ _ | assumption | apply bDrewN | apply bDrew | apply bAlloc | (refine bSet ?_ ?_ _) | (refine bStep ?_ (by assumption)) | omega | (simp <;> omega)))⟩
 ·rw [hf]
  have C := Lib.hid (fun w => fieldOf_some i hi w)
  have hp := prim_bd i
  dsimp only
  have HA := Lib.hid hA
  have hi3 : i + 1 ≤ 3 := by omega
  have hi1 : 1 ≤ i + 1 := by omega
  have HD := Lib.hid (fun (bf off : Nat) (w1 : World) (hbf : bf < w1.heap.size) h1 h2 h3 (h4 : x < prim i) => digest_any (prim i) (i + 1) x bf off c a m w1 (by omega) hp.2 (by omega) hi1 hi3 hB hlen hbf h1 h2 h3)
  clear hA hf hi3 hi1 hi
  generalize dig (prim i) (i + 1) x m = D at *
  generalize hP : prim i = P at *
  generalize i + 1 = b at *
  by_cases h1 : 1000 < m.length
  ·rw [if_pos h1]
   have h1' : 1000 < (m.length : Int) := by omega
   generalize m.length = L at *
   go_enter Tryz.func36, Tryz.ntmps36
   go_wp2_with (go_at_call 86; refine (C.out _).mono ?_; rintro e w1 ⟨B, off, rfl, hB1, hB2, hc1, hc2, hb⟩)
   exact bodyPost_ret (v := .tuple #[.int .u64 0, .int .i64 7]) (by simp only [results, Tryz.results36]; go_simp) rfl ⟨rfl, (by repeat' (first | exact Below.refl _ _ | assumption | apply bDrewN | apply bDrew | apply bAlloc | (refine bSet ?_ ?_ _) | (refine bStep ?_ (by assumption)) | omega | (simp <;> omega)))⟩
  ·rw [if_neg h1]
   have h1' : (m.length : Int) ≤ 1000 := by omega
   by_cases h2 : x < 1 ∨ P ≤ x
   ·rw [if_pos h2]
    have h2' : (x : Int) < 1 ∨ (1 ≤ (x : Int) ∧ (P : Int) ≤ x) := by omega
    clear h2 h1 HD
    rcases h2' with h2 | ⟨h2, h3⟩
    all_goals
     go_enter Tryz.func36, Tryz.ntmps36
     go_wp2_with (go_at_call 86; refine (C.out _).mono ?_; rintro e w1 ⟨B, off, rfl, hB1, hB2, hc1, hc2, hb⟩)
     exact bodyPost_ret (v := .tuple #[.int .u64 0, .int .i64 3]) (by simp only [results, Tryz.results36]; go_simp) rfl ⟨rfl, (by repeat' (first | exact Below.refl _ _ | assumption | apply bDrewN | apply bDrew | apply bAlloc | (refine bSet ?_ ?_ _) | (refine bStep ?_ (by assumption)) | omega | (simp <;> omega)))⟩
   ·rw [if_neg h2]
    have h2' : 1 ≤ (x : Int) := by omega
    have h3 : (x : Int) < P := by omega
    have h4 : x < P := by omega
    clear h2 h1
    go_enter Tryz.func36, Tryz.ntmps36
    go_wp2_with (first | (go_at_call 86; refine (C.out _).mono ?_; rintro e w1 ⟨B, off, rfl, hB1, hB2, hc1, hc2, hb⟩) | (go_at_call 41; refine (HD.out _ _ _ hB2 hc1 hc2 (HA.out.step hb) h4).mono ?_; rintro e w2 ⟨rfl, hb2⟩))
    exact bodyPost_ret (v := .tuple #[.int .u64 D, .int .i64 0]) (by simp only [results, Tryz.results36]; go_simp) rfl ⟨rfl, (by repeat' (first | exact Below.refl _ _ | assumption | apply bDrewN | apply bDrew | apply bAlloc | (refine bSet ?_ ?_ _) | (refine bStep ?_ (by assumption)) | omega | (simp <;> omega)))⟩
end Go.Proofs.YtmpilgkfbibhlaaGreatDoor
namespace Go.Proofs.YtmpilgkfbibhlaaGreatDoor
open Go.RowKit
theorem powS_snoc (p x : Nat) (c : Nat) : ∀ (l : List Nat) (s : Nat × Nat), powS p x (l ++ [c]) s = (((powS p x l s).1 + c % p * (powS p x l s).2) % p, (powS p x l s).2 * x % p)
 | [], _ => rfl
 | d :: l, s => powS_snoc p x c l _
theorem powS_bd {p x : Nat} (hp : 0 < p) (hx : x < p) : ∀ (l : List Nat) (s : Nat × Nat), s.1 < p → s.2 < p → (powS p x l s).1 < p ∧ (powS p x l s).2 < p
 | [], _, h1, h2 => ⟨h1, h2⟩
 | c :: l, s, _, _ => powS_bd hp hx l _ (Nat.mod_lt _ hp) (Nat.mod_lt _ hp)
theorem rev_get {ws : List Nat} {k : Nat} (hk : k < ws.length) : ws.reverse.take (k + 1) = ws.reverse.take k ++ [ws.getD (ws.length - 1 - k) 0] := by
 rw [List.take_succ_eq_append_getElem (by simpa using hk)]
 congr 2
 rw [List.getElem_reverse, List.getD_eq_getElem?_getD, List.getElem?_eq_getElem (by omega)]
 rfl
theorem u64_tmod {n P : Nat} (hn : n < 18446744073709551616) : (IntKind.u64.wrap (n : Int)).tmod P = ((n % P : Nat) : Int) := by
 rw [Go.IntWalk.u64_in _ ⟨by omega, by omega⟩, Int.tmod_eq_emod_of_nonneg (by omega)]
 rfl
theorem sum_step {P O Q d x : Nat} (hP : P < 2147483648) (hO : O < P) (hQ : Q < P) (hx : x < P) :
  (IntKind.u64.wrap ((O : Int) + IntKind.u64.wrap ((d : Int) % P * Q))).tmod P = (((O + d % P * Q) % P : Nat) : Int) ∧ (IntKind.u64.wrap ((Q : Int) * x)).tmod P = ((Q * x % P : Nat) : Int) := by
 have hr : d % P < P := Nat.mod_lt _ (by omega)
 have h1 : d % P * Q ≤ 2147483648 * 2147483648 := Nat.mul_le_mul (by omega) (by omega)
 have h2 : Q * x ≤ 2147483648 * 2147483648 := Nat.mul_le_mul (by omega) (by omega)
 have e1 : ((d : Int) % P * Q) = ((d % P * Q : Nat) : Int) := by push_cast; rfl
 have e2 : ((Q : Int) * x) = ((Q * x : Nat) : Int) := by push_cast; rfl
 rw [e1, e2]
 generalize d % P * Q = T at *
 generalize Q * x = U at *
 rw [Go.IntWalk.u64_in (T : Int) ⟨by omega, by omega⟩, show ((O : Int) + T) = ((O + T : Nat) : Int) by push_cast; rfl]
 exact ⟨u64_tmod (by omega), u64_tmod (by omega)⟩
set_option maxHeartbeats 2000000 in
set_option maxRecDepth 20000 in
theorem sum_any (i : Nat) (hi : i < 3) (x c : Nat) (a : Option Addr) (m : List Nat) (w : World) (hx : x < prim i) (hB : Byt m) (hlen : m.length ≤ 2000) (hA : BytV a m w) :
  Calls Tryz.prog 116 #[.int .i64 i, .int .u64 x, .slice a m.length c] w fun e w' => e = .returned (.int .u64 (dig (prim i) (i + 1) x m)) ∧ Below w.heap.size w w' := by
 have hpr := prim_bd i
 have hfi : fi (i : Int) = some i := by unfold fi; rw [if_pos ⟨by omega, by omega⟩]; rfl
 have CP := Lib.hid (fun w => Prime_any (i : Int) w)
 rw [hfi] at CP
 dsimp only at CP
 have CL := Lib.hid (fun w hA => List_any (i + 1) (i : Int) (by omega) (by omega) (by push_cast; rfl) a c m w hB hlen hA)
 have HA := Lib.hid hA
 have hwl : (words (i + 1) m).length ≤ 2002 := by
  rw [words_len]; unfold wn
  have := Nat.div_le_self m.length (i + 1)
  omega
 have hdig : Hid ((powS (prim i) x (words (i + 1) m).reverse (0, x)).1 = dig (prim i) (i + 1) x m) := powS_eq (by omega) x _
 have hbd : Hid (∀ l, (powS (prim i) x l (0, x)).1 < prim i ∧ (powS (prim i) x l (0, x)).2 < prim i) := fun l => powS_bd (by omega) hx l (0, x) (by show 0 < _; omega) hx
 have hst : Hid (∀ l d, powS (prim i) x (l ++ [d]) (0, x) = (((powS (prim i) x l (0, x)).1 + d % prim i * (powS (prim i) x l (0, x)).2) % prim i, (powS (prim i) x l (0, x)).2 * x % prim i)) := fun l d => powS_snoc _ _ d l _
 have hrv : Hid (∀ k, k < (words (i + 1) m).length → (words (i + 1) m).reverse.take (k + 1) = (words (i + 1) m).reverse.take k ++ [(words (i + 1) m).getD ((words (i + 1) m).length - 1 - k) 0]) := fun k hk => rev_get hk
 have hend : Hid ((words (i + 1) m).reverse.take (words (i + 1) m).length = (words (i + 1) m).reverse) := List.take_of_length_le (by simp)
 have hwb : Hid (∀ k, (words (i + 1) m).getD k 0 < 16777216) := fun k => by
  unfold words
  rw [List.getD_eq_getElem?_getD, List.getElem?_map]
  cases h : (List.range (wn (i + 1) m))[k]? with
  | none => simp
  | some j => simpa using wx_lt hB (show i + 1 ≤ 3 by omega) j
 generalize dig (prim i) (i + 1) x m = D at *
 generalize words (i + 1) m = WS at *
 generalize prim i = P at *
 clear hA hfi
 go_enter Tryz.func116, Tryz.ntmps116
 go_wp2_with (first | (go_at_call 108; refine (CP.out _).mono ?_; rintro e w1 ⟨rfl, rfl⟩) | (go_at_call 144; refine (CL.out _ HA.out).mono ?_; rintro e w1 ⟨v, rfl, hv, hb⟩; obtain ⟨a', c', rfl, -⟩ := NOwn.at_ hv; have HV := Lib.hid hv; clear hv))
 go_loopw [9, 10, 11] (fun o q j wr => ∃ k : Nat, k ≤ WS.length ∧ o = .int .u64 (powS P x (WS.reverse.take k) (0, x)).1 ∧ q = .int .u64 (powS P x (WS.reverse.take k) (0, x)).2 ∧ j = .int .i64 ((WS.length : Int) - 1 - k) ∧ wr = w1) (fun _ _ j _ => (intOf j + 1).toNat)
 case atStart => exact ⟨0, Nat.zero_le _, rfl, rfl, by simp, rfl⟩
 case round =>
  obtain ⟨k, hk, rfl, rfl, rfl, rfl⟩ := hrel
  by_cases hlt : k < WS.length
  ·obtain ⟨b1, b2⟩ := hbd.out (WS.reverse.take k)
   have hs := hst.out (WS.reverse.take k) (WS.getD (WS.length - 1 - k) 0)
   rw [← hrv.out k hlt] at hs
   have hwd := hwb.out (WS.length - 1 - k)
   obtain ⟨bm, om, rfl, hcm⟩ := HV.out.read (j := WS.length - 1 - k) (by omega)
   have hS1 := Lib.hid (congrArg Prod.fst hs)
   have hS2 := Lib.hid (congrArg Prod.snd hs)
   dsimp only at hS1 hS2
   clear hs
   have hidx : ((WS.length : Int) - 1 - k) = ((WS.length - 1 - k : Nat) : Int) := by omega
   have hil : WS.length - 1 - k < WS.length := by omega
   have HK := Lib.hid (show WS.length - 1 - (k + 1) = WS.length - 1 - k - 1 by omega)
   rw [hidx]
   have hnext : Hid (((WS.length - 1 - k : Nat) : Int) - 1 = (WS.length : Int) - 1 - ((k + 1 : Nat) : Int)) := by unfold Hid; omega
   generalize (powS P x (WS.reverse.take k) (0, x)).1 = O at *
   generalize (powS P x (WS.reverse.take k) (0, x)).2 = Q at *
   generalize hO2 : (powS P x (WS.reverse.take (k + 1)) (0, x)).1 = O2 at *
   generalize hQ2 : (powS P x (WS.reverse.take (k + 1)) (0, x)).2 = Q2 at *
   generalize WS.getD (WS.length - 1 - k) 0 = d at *
   generalize WS.length - 1 - k = j at *
   have hpz : (P : Int) ≠ 0 := by omega
   have HO2 := Lib.hid hO2
   have HQ2 := Lib.hid hQ2
   clear hO2 hQ2
   obtain ⟨t1, t2⟩ := sum_step (d := d) hpr.2 b1 b2 hx
   rw [← hS1.out] at t1
   rw [← hS2.out] at t2
   have T1 := Lib.hid t1
   have T2 := Lib.hid t2
   clear t1 t2
   go_wp2_with fail
   go_roundw
   case rel => exact ⟨k + 1, by omega, by rw [T1.out, HO2.out], by rw [T2.out, HQ2.out], by rw [hnext.out], by first | trivial | rfl⟩
   case measure => simp [intOf]
  ·obtain rfl : k = WS.length := by omega
   have hj : ((WS.length : Int) - 1 - (WS.length : Int)) = -1 := by omega
   rw [hj]
   go_wp2_with fail
   go_ret
   exact ⟨by rw [hend.out, hdig.out]; rfl, hb⟩
end Go.Proofs.YtmpilgkfbibhlaaGreatDoor
namespace Go.Proofs.YtmpilgkfbibhlaaGreatDoor
open Sx Go.RowKit
theorem glob_step {w w' : World} (h : Glob0 w) (hb : Below w.heap.size w w') : Glob0 w' :=
 ⟨h.1.kept fun g hg => hb.block g (h.2 g hg).2, fun g hg => ⟨by have := (h.2 g hg).2; have := hb.size; omega, Nat.lt_of_lt_of_le (h.2 g hg).2 hb.size⟩⟩
theorem byt5 : Byt [5] := fun k => by
 match k with
 | 0 => decide
 | k + 1 => simp
theorem byt_one (W : World) (x : Nat) (T : TypeId) : BytV (some ⟨W.heap.size, 0, none⟩) [x] (W.alloc (.cells #[.int .u8 x] T)) := fun _ => by
 refine ⟨_, 0, rfl, by simp, fun k hk => ?_⟩
 obtain rfl : k = 0 := by simpa using hk
 go_simp
theorem ex_dig : digR 0 2 [5] = (30, 0) := by rfl
set_option maxHeartbeats 1000000 in
set_option maxRecDepth 20000 in
theorem works_any (w : World) (hG : Glob0 w) : Calls Tryz.prog 10 #[] w fun e w' => e = .returned (.bool true) ∧ Below w.heap.size w w' := by
 have CD := Lib.hid (fun W => Digest_any 0 2 1 (some ⟨w.heap.size, 0, none⟩) [5] W (by decide) byt5 (by decide))
 rw [ex_dig] at CD
 have CT := Lib.hid (fun W hG => exText_any W hG)
 have HB := Lib.hid (byt_one w 5 5)
 have HG := Lib.hid hG
 clear hG
 unfold exV exS at CT
 go_enter Tryz.func10, Tryz.ntmps10
 go_wp2_with (first | (go_at_call 36; refine (CD.out _ HB.out).mono ?_; rintro e w1 ⟨rfl, hb1⟩; have kb1 : Below w.heap.size w w1 := ((Below.refl _ _).alloc (Nat.le_refl _) _).trans (hb1.mono (by simp))) | (go_at_call 37; refine (CT.out _ (glob_step HG.out kb1)).mono ?_; rintro e w2 ⟨rfl, hb2⟩))
 go_ret
 exact ⟨rfl, bStep kb1 hb2⟩
end Go.Proofs.YtmpilgkfbibhlaaGreatDoor
namespace Go.Proofs.YtmpilgkfbibhlaaGreatDoor
open Sx Go.RowKit
def mdRule : List Sv → St → Tree FLeaf
 | [.one (.s v l)], σ => .must (decide (v.size ≤ 1000000)) (.leaf (.one (.b (modB v) l), σ))
 | _, _ => .fail
theorem mdRule_ok {args : List Sv} {σ : St} {y : FLeaf} (hy : (mdRule args σ).At y) : FunOk Tryz.prog 126 args σ y.1 y.2 := by
 unfold mdRule at hy
 split at hy
 ·rename_i v l
  obtain ⟨h1, h2⟩ := hy
  obtain rfl : _ = y := h2
  exact FunOk.of_anyG rfl fun e w hG => module_any v w (of_decide_eq_true h1) hG
 ·exact hy.elim
def emRule : List Sv → St → Tree FLeaf
 | [.one (.s v l)], σ => .leaf (.one (.b (v.toList == []) l), σ)
 | _, _ => .fail
theorem emRule_ok {args : List Sv} {σ : St} {y : FLeaf} (hy : (emRule args σ).At y) : FunOk Tryz.prog 91 args σ y.1 y.2 := by
 unfold emRule at hy
 split at hy
 ·rename_i v l
  obtain rfl : _ = y := hy
  exact FunOk.of_any rfl fun e w => empty_any v w
 ·exact hy.elim
def spC (f : FuncId) : Option (List Sv → St → Tree FLeaf) := match Nat.beq f 39 with
 | true => some nmRule
 | false => match Nat.beq f 126 with
  | true => some mdRule
  | false => match Nat.beq f 91 with
   | true => some emRule
   | false => none
theorem spC_ok : SpOk Tryz.prog spC := by
 intro f g hf args σ y hy
 unfold spC at hf
 split at hf
 ·rename_i h; obtain rfl := beq_iff'.1 h
  obtain rfl := Option.some.inj hf; exact nmRule_ok hy
 ·split at hf
  ·rename_i h; obtain rfl := beq_iff'.1 h
   obtain rfl := Option.some.inj hf; exact mdRule_ok hy
  ·split at hf
   ·rename_i h; obtain rfl := beq_iff'.1 h
    obtain rfl := Option.some.inj hf; exact emRule_ok hy
   ·cases hf
def evA (k t a b : Int) (nm ot : ByteArray) : List Sv := [.agg [.i .i64 k true, .i .i64 t false, .i .i64 a false, .i .i64 b false, .s nm false, .s ot false]]
end Go.Proofs.YtmpilgkfbibhlaaGreatDoor
