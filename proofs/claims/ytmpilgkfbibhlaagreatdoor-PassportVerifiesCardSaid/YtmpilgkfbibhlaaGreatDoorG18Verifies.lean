/-
 The reference's has; a pair in a list of pairs.
-/
import Derived.Test.YtmpilgkfbibhlaaGreatDoorG15Verifies
import Derived.Deep.Cut
import Derived.Test.YtmpilgkfbibhlaaGreatDoorG17Verifies
import Derived.Test.YtmpilgkfbibhlaaGreatDoorG9Verifies
import Derived.Test.YtmpilgkfbibhlaaGreatDoorG14Verifies
import Derived.Deep.MidRow
import Derived.Test.YtmpilgkfbibhlaaGreatDoorG6Verifies
import Derived.Test.YtmpilgkfbibhlaaGreatDoorG0Verifies
import Derived.Deep.QuietTactic
import Derived.Maps.Own
import Derived.Maps.OwnSet
set_option linter.unusedSimpArgs false
set_option linter.unusedVariables false
namespace Go.Proofs.YtmpilgkfbibhlaaGreatDoor
open Go.RowKit
theorem hasT_take {l : List ByteArray} {i : Nat} {t s : ByteArray} (h : hasT (l.take i) s = false) (hk : l[i]? = some t) (hb : eqT t s = false) : hasT (l.take (i + 1)) s = false := by
 unfold hasT at *
 rw [List.take_add_one, hk, List.any_append, h]
 simpa using hb
set_option maxHeartbeats 2000000 in
theorem RHas_any {v : Value} {l : List ByteArray} {w : World} (h : SRow v l w) (hl : l.length ≤ 1000000) (s : ByteArray) : Calls Tryz.prog 111 #[v, .string s] w fun e w' => e = .returned (.bool (hasT l s)) ∧ Below w.heap.size w w' := by
 obtain ⟨a, c, rfl, h2⟩ := h.cells
 have H := Lib.hid h2
 clear h h2
 go_enter Tryz.func111, Tryz.ntmps111
 go_wp2_with fail
 go_loopw [5] (fun ix wr => ∃ i : Nat, i ≤ l.length ∧ ix = .int .i64 i ∧ Hid (hasT (l.take i) s = false) ∧ Hid (Below w.heap.size w wr)) (fun ix _ => l.length - (intOf ix).toNat)
 case atStart => exact ⟨0, by omega, rfl, rfl, Below.refl _ _⟩
 case round =>
  obtain ⟨i, hi, rfl, HT, HW⟩ := hrel
  by_cases hc : i < l.length
  ·have c1 : (i : Int) < l.length := by omega
   have c0 : (0 : Int) ≤ i := by omega
   obtain ⟨t, hk⟩ : ∃ t, l[i]? = some t := ⟨l[i], List.getElem?_eq_getElem hc⟩
   obtain ⟨b, off, rfl, hb0, hcs⟩ := H.out (by rintro rfl; simp at hc)
   have g0 := cell_step (hcs i t hk) HW.out
   have HKK := Lib.hid hk
   clear hcs hk hc
   by_cases he : (t.toList == s.toList) = true
   ·have HR : Hid (hasT l s = true) := List.any_eq_true.2 ⟨t, List.mem_of_getElem? HKK.out, he⟩
    go_wp2_with fail
    exact bodyPost_ret (v := .bool true) (by simp only [results, Tryz.results111]; go_simp) rfl ⟨by rw [HR.out], HW.out⟩
   ·have he2 : (t.toList == s.toList) = false := by simpa using he
    have HE := Lib.hid (hasT_take HT.out HKK.out he2)
    clear he
    go_wp2_with fail
    exact ⟨⟨i + 1, by omega, by push_cast; rfl, HE, HW⟩, by simp [intOf]; omega⟩
  ·obtain rfl : i = l.length := by omega
   have HR : Hid (hasT l s = false) := by have q := HT.out; rw [List.take_of_length_le (Nat.le_refl _)] at q; exact q
   clear hc
   go_wp2_with fail
   exact bodyPost_ret (v := .bool false) (by simp only [results, Tryz.results111]; go_simp) rfl ⟨by rw [HR.out], HW.out⟩
end Go.Proofs.YtmpilgkfbibhlaaGreatDoor
namespace Go.Proofs.YtmpilgkfbibhlaaGreatDoor
open Go.RowKit Mr
def EntAt (a : Option Addr) (es : List Ent) (W : World) : Prop := es ≠ [] → ∃ b off, a = some ⟨b, off, none⟩ ∧ b < W.heap.size ∧ ∀ (k : Nat) (y : Ent), es[k]? = some y → ∀ (j : Nat) (u : Value), (entC y)[j]? = some u → W.cell? ⟨b, off + k * 10 + j, none⟩ = some u
theorem EntAt.step {a : Option Addr} {es : List Ent} {W w2 : World} (h : EntAt a es W) (hb : Below W.heap.size W w2) : EntAt a es w2 := by
 intro hn
 obtain ⟨b, off, e1, e2, e3⟩ := h hn
 exact ⟨b, off, e1, Nat.lt_of_lt_of_le e2 hb.size, fun k y hk j u hj => cell_step (e3 k y hk j u hj) hb⟩
def evtC : Evt → List Value
 | (k, t, a, b, nm, ot) => [.int .i64 k, .int .i64 t, .int .i64 a, .int .i64 b, .string nm, .string ot]
theorem evtC_len (e : Evt) : (evtC e).length = 6 := by obtain ⟨k, t, a, b, nm, ot⟩ := e; rfl
def EvAt (a : Option Addr) (h : List Evt) (W : World) : Prop := h ≠ [] → ∃ b off, a = some ⟨b, off, none⟩ ∧ b < W.heap.size ∧ ∀ (k : Nat) (e : Evt), h[k]? = some e → ∀ (j : Nat) (u : Value), (evtC e)[j]? = some u → W.cell? ⟨b, off + k * 6 + j, none⟩ = some u
theorem EvAt.step {a : Option Addr} {h : List Evt} {W w2 : World} (hh : EvAt a h W) (hb : Below W.heap.size W w2) : EvAt a h w2 := by
 intro hn
 obtain ⟨b, off, e1, e2, e3⟩ := hh hn
 exact ⟨b, off, e1, Nat.lt_of_lt_of_le e2 hb.size, fun k y hk j u hj => cell_step (e3 k y hk j u hj) hb⟩
end Go.Proofs.YtmpilgkfbibhlaaGreatDoor
namespace Go.Proofs.YtmpilgkfbibhlaaGreatDoor
open Go.RowKit
theorem digR_lt (n : Int) (i : Nat) (hf : fi n = some i) (x : Nat) (m : List Nat) : (digR n x m).1 < prim i := by
 have hp := prim_bd i
 unfold digR
 rw [hf]
 dsimp only
 split
 ·show 0 < _; omega
 ·split
  ·show 0 < _; omega
  ·exact horner_lt (by omega) _ _
theorem digR_bd (n : Int) (x : Nat) (m : List Nat) : (digR n x m).1 < 2147483648 := by
 cases hf : fi n with
 | none => unfold digR; rw [hf]; show 0 < _; omega
 | some i => have := digR_lt n i hf x m; have := prim_bd i; omega
set_option maxHeartbeats 1000000 in
set_option maxRecDepth 20000 in
theorem RDigest_any (n : Int) (x c : Nat) (a : Option Addr) (m : List Nat) (w : World) (hx : x < 18446744073709551616) (hB : Byt m) (hlen : m.length ≤ 2000) (hA : BytV a m w) :
  Calls Tryz.prog 143 #[.int .i64 n, .int .u64 x, .slice a m.length c] w fun e w' => e = .returned (.tuple #[.int .u64 (digR n x m).1, .int .i64 (digR n x m).2]) ∧ Below w.heap.size w w' := by
 unfold digR
 have CP := Lib.hid (fun w => Prime_any n w)
 rcases fi_cases n with ⟨hn, hf⟩ | ⟨i, hi, rfl, hf⟩
 ·rw [hf] at CP ⊢
  dsimp only at CP ⊢
  clear hn hf
  go_enter Tryz.func143, Tryz.ntmps143
  go_wp2_with (go_at_call 108; refine (CP.out _).mono ?_; rintro e w1 ⟨rfl, rfl⟩)
  exact bodyPost_ret (v := .tuple #[.int .u64 0, .int .i64 2]) (by simp only [results, Tryz.results143]; go_simp) rfl ⟨rfl, (by repeat' (first | exact Below.refl _ _ | assumption | apply bDrewN | apply bDrew | apply bAlloc | (refine bSet ?_ ?_ _) | (refine bStep ?_ (by assumption)) | omega | (simp <;> omega)))⟩
 ·rw [hf] at CP ⊢
  dsimp only at CP ⊢
  have hp := prim_bd i
  have HA := Lib.hid hA
  have HD := Lib.hid (fun (h4 : x < prim i) => sum_any i hi x c a m w h4 hB hlen hA)
  clear hA hf hi
  generalize dig (prim i) (i + 1) x m = D at *
  generalize prim i = P at *
  have hpz : (P : Int) ≠ 0 := by omega
  by_cases h1 : 1000 < m.length
  ·rw [if_pos h1]
   have h1' : 1000 < (m.length : Int) := by omega
   clear HD
   generalize m.length = L at *
   go_enter Tryz.func143, Tryz.ntmps143
   go_wp2_with (go_at_call 108; refine (CP.out _).mono ?_; rintro e w1 ⟨rfl, rfl⟩)
   exact bodyPost_ret (v := .tuple #[.int .u64 0, .int .i64 7]) (by simp only [results, Tryz.results143]; go_simp) rfl ⟨rfl, (by repeat' (first | exact Below.refl _ _ | assumption | apply bDrewN | apply bDrew | apply bAlloc | (refine bSet ?_ ?_ _) | (refine bStep ?_ (by assumption)) | omega | (simp <;> omega)))⟩
  ·rw [if_neg h1]
   have h1' : (m.length : Int) ≤ 1000 := by omega
   by_cases h2 : x < 1 ∨ P ≤ x
   ·rw [if_pos h2]
    have h2' : (x : Int) < 1 ∨ (1 ≤ (x : Int) ∧ (P : Int) ≤ x) := by omega
    clear h2 h1 HD
    rcases h2' with h2 | ⟨h2, h3⟩
    all_goals
     go_enter Tryz.func143, Tryz.ntmps143
     go_wp2_with (go_at_call 108; refine (CP.out _).mono ?_; rintro e w1 ⟨rfl, rfl⟩)
     exact bodyPost_ret (v := .tuple #[.int .u64 0, .int .i64 3]) (by simp only [results, Tryz.results143]; go_simp) rfl ⟨rfl, (by repeat' (first | exact Below.refl _ _ | assumption | apply bDrewN | apply bDrew | apply bAlloc | (refine bSet ?_ ?_ _) | (refine bStep ?_ (by assumption)) | omega | (simp <;> omega)))⟩
   ·rw [if_neg h2]
    have h2' : 1 ≤ (x : Int) := by omega
    have h3 : (x : Int) < P := by omega
    have h4 : x < P := by omega
    clear h2 h1
    go_enter Tryz.func143, Tryz.ntmps143
    go_wp2_with (first | (go_at_call 108; refine (CP.out _).mono ?_; rintro e w1 ⟨rfl, rfl⟩) | (go_at_call 116; refine (HD.out h4).mono ?_; rintro e w2 ⟨rfl, hb2⟩))
    exact bodyPost_ret (v := .tuple #[.int .u64 D, .int .i64 0]) (by simp only [results, Tryz.results143]; go_simp) rfl ⟨rfl, (by repeat' (first | exact Below.refl _ _ | assumption | apply bDrewN | apply bDrew | apply bAlloc | (refine bSet ?_ ?_ _) | (refine bStep ?_ (by assumption)) | omega | (simp <;> omega)))⟩
set_option maxHeartbeats 1000000 in
set_option maxRecDepth 20000 in
theorem RTag_any (n : Int) (x pad c : Nat) (a : Option Addr) (m : List Nat) (w : World) (hx : x < 18446744073709551616) (hpad : pad < 18446744073709551616) (hB : Byt m) (hlen : m.length ≤ 2000) (hA : BytV a m w) :
  Calls Tryz.prog 115 #[.int .i64 n, .int .u64 x, .int .u64 pad, .slice a m.length c] w fun e w' => e = .returned (.tuple #[.int .u64 (tagR n x pad m).1, .int .i64 (tagR n x pad m).2]) ∧ Below w.heap.size w w' := by
 have CD := Lib.hid (fun W hA => RDigest_any n x c a m W hx hB hlen hA)
 have CP := Lib.hid (fun w => Prime_any n w)
 have HA := Lib.hid hA
 have hbd := digR_bd n x m
 have hlt : ∀ i, fi n = some i → (digR n x m).1 < prim i := fun i hf => digR_lt n i hf x m
 have hnone : fi n = none → digR n x m = (0, 2) := fun h => by unfold digR; rw [h]
 unfold tagR
 clear hA
 rcases fi_cases n with ⟨hn, hf⟩ | ⟨i, hi, rfl, hf⟩
 ·rw [hf] at CP ⊢
  rw [hnone hf] at CD
  dsimp only at CD CP ⊢
  clear hn hf hnone hlt hbd
  go_enter Tryz.func115, Tryz.ntmps115
  go_wp2_with (go_at_call 143; refine (CD.out _ HA.out).mono ?_; rintro e w1 ⟨rfl, hb⟩)
  exact bodyPost_ret (v := .tuple #[.int .u64 0, .int .i64 2]) (by simp only [results, Tryz.results115]; go_simp) rfl ⟨rfl, (by repeat' (first | exact Below.refl _ _ | assumption | apply bDrewN | apply bDrew | apply bAlloc | (refine bSet ?_ ?_ _) | (refine bStep ?_ (by assumption)) | omega | (simp <;> omega)))⟩
 ·rw [hf] at CP ⊢
  dsimp only at CP ⊢
  have hl := hlt i hf
  have hp := prim_bd i
  clear hlt hnone hf
  generalize (digR (i : Int) x m).1 = D at *
  generalize (digR (i : Int) x m).2 = E at *
  generalize prim i = P at *
  by_cases h1 : E ≠ 0
  ·rw [if_pos h1]
   go_enter Tryz.func115, Tryz.ntmps115
   go_wp2_with (go_at_call 143; refine (CD.out _ HA.out).mono ?_; rintro e w1 ⟨rfl, hb⟩)
   exact bodyPost_ret (v := .tuple #[.int .u64 0, .int .i64 E]) (by simp only [results, Tryz.results115]; go_simp) rfl ⟨rfl, (by repeat' (first | exact Below.refl _ _ | assumption | apply bDrewN | apply bDrew | apply bAlloc | (refine bSet ?_ ?_ _) | (refine bStep ?_ (by assumption)) | omega | (simp <;> omega)))⟩
  ·rw [if_neg h1]
   have h1' : E = 0 := by omega
   subst h1'
   by_cases h2 : P ≤ pad
   ·rw [if_pos h2]
    have h2' : (P : Int) ≤ pad := by omega
    go_enter Tryz.func115, Tryz.ntmps115
    go_wp2_with (first | (go_at_call 143; refine (CD.out _ HA.out).mono ?_; rintro e w1 ⟨rfl, hb⟩) | (go_at_call 108; refine (CP.out _).mono ?_; rintro e w2 ⟨rfl, rfl⟩))
    exact bodyPost_ret (v := .tuple #[.int .u64 0, .int .i64 3]) (by simp only [results, Tryz.results115]; go_simp) rfl ⟨rfl, (by repeat' (first | exact Below.refl _ _ | assumption | apply bDrewN | apply bDrew | apply bAlloc | (refine bSet ?_ ?_ _) | (refine bStep ?_ (by assumption)) | omega | (simp <;> omega)))⟩
   ·rw [if_neg h2]
    have h2' : (pad : Int) < P := by omega
    have hpz : (P : Int) ≠ 0 := by omega
    go_enter Tryz.func115, Tryz.ntmps115
    go_wp2_with (first | (go_at_call 143; refine (CD.out _ HA.out).mono ?_; rintro e w1 ⟨rfl, hb⟩) | (go_at_call 108; refine (CP.out _).mono ?_; rintro e w2 ⟨rfl, rfl⟩))
    exact bodyPost_ret (v := .tuple #[.int .u64 (((D : Int) + pad) % P), .int .i64 0]) (by simp only [results, Tryz.results115]; go_simp) rfl ⟨rfl, (by repeat' (first | exact Below.refl _ _ | assumption | apply bDrewN | apply bDrew | apply bAlloc | (refine bSet ?_ ?_ _) | (refine bStep ?_ (by assumption)) | omega | (simp <;> omega)))⟩
end Go.Proofs.YtmpilgkfbibhlaaGreatDoor
namespace Go.Proofs.YtmpilgkfbibhlaaGreatDoor
open Go.RowKit Mr
theorem rraw_ok (e : Evt) (w : World) (hok : okX e = true) (h1 : e.2.2.2.2.1.size ≤ 100 ∧ e.2.2.2.2.2.size ≤ 100) :
  Calls Tryz.prog 142 #[evX e] w fun en w' => ∃ v, en = .returned v ∧ w'.ownsRow w.heap.size 5 1 v (bytX e).length (byC (bytX e)) ∧ Below w.heap.size w w' := by
 obtain ⟨k, t, a, b, nm, ot⟩ := e
 change okE k t a b nm ot = true at hok
 obtain ⟨he, -, -⟩ := okE_ev hok
 have q1 := he.k; have q2 := he.t; have q3 := he.a; have q4 := he.b
 unfold evL at q1 q2 q3 q4
 dsimp only at q1 q2 q3 q4 h1
 obtain ⟨k, rfl⟩ := Int.eq_ofNat_of_zero_le (show 0 ≤ k by omega)
 obtain ⟨t, rfl⟩ := Int.eq_ofNat_of_zero_le (show 0 ≤ t by omega)
 obtain ⟨a, rfl⟩ := Int.eq_ofNat_of_zero_le (show 0 ≤ a by omega)
 obtain ⟨b, rfl⟩ := Int.eq_ofNat_of_zero_le (show 0 ≤ b by omega)
 refine (rraw_any k t a b nm ot w (by omega) (by omega) (by omega) (by omega) h1.1 h1.2).mono fun en w' h => ?_
 obtain ⟨v, rfl, L, hm, -⟩ := h
 have ho := hm.own 0 _ rfl
 have e : (k :: (b8 t ++ (b8 a ++ (b8 b ++ (nm.size :: (nm.data.toList.map UInt8.toNat ++ (ot.size :: ot.data.toList.map UInt8.toNat)))))) : List Nat) = bytX ((k : Int), (t : Int), (a : Int), (b : Int), nm, ot) := by
  show _ = bytesE (evL k t a b nm ot)
  unfold bytesE evL
  simp
  try exact ⟨rfl, rfl⟩
 rw [e] at ho
 exact ⟨v, rfl, ho, hm.bel⟩
def f3 (x y z : Option Rw) : Nat → Option Rw := fun s => if s = 0 then x else if s = 1 then y else if s = 2 then z else none
theorem f3_0 {x y z q : Option Rw} (s : Nat) : f3 q y z s = updF (f3 x y z) 0 q s := by
 unfold updF f3; by_cases h : s = 0
 ·rw [if_pos h, if_pos h]
 ·rw [if_neg h, if_neg h, if_neg h]
theorem f3_1 {x y z q : Option Rw} (s : Nat) : f3 x q z s = updF (f3 x y z) 1 q s := by
 unfold updF f3; by_cases h : s = 1
 ·subst h; rfl
 ·rw [if_neg h, if_neg h, if_neg h]
theorem f3_2 {x y z q : Option Rw} (s : Nat) : f3 x y q s = updF (f3 x y z) 2 q s := by
 unfold updF f3; by_cases h : s = 2
 ·subst h; rfl
 ·rw [if_neg h, if_neg h, if_neg h]
structure MsgS (w : World) (R A : List Nat) (C : Nat) (b0 b1 b2 b3 b4 b5 : Bool) (v0 v1 v2 v3 v4 v5 : Value) (W : World) : Prop where
 mr : MR w w.heap.size (fun _ => none) (f3 (ro b4 (yR v4 (R ++ A ++ [C])) (ro b2 (yR v2 (R ++ A)) (ro b0 (yR v0 R) none))) (ro b1 (yR v1 A) none) (ro b3 (yR v3 [C]) none)) W
 i2 : b2 = true → b0 = true ∧ b1 = true
 i4 : b4 = true → b2 = true ∧ b3 = true
 i5 : b5 = true → b4 = true
 e5 : b5 = true → v5 = v4
section
variable {w W w2 : World} {R A : List Nat} {C : Nat} {b0 b1 b2 b3 b4 b5 : Bool} {v0 v1 v2 v3 v4 v5 v : Value}
theorem bfalse {x : Bool} (h : x = true → False) : x = false := by cases x <;> simp at h ⊢
theorem MsgS.n0 (h : MsgS w R A C false b1 b2 b3 b4 b5 v0 v1 v2 v3 v4 v5 W) : b2 = false ∧ b4 = false ∧ b5 = false := by
 have h2 : b2 = false := bfalse fun c => by have := (h.i2 c).1; cases this
 have h4 : b4 = false := bfalse fun c => by have := (h.i4 c).1; rw [h2] at this; cases this
 exact ⟨h2, h4, bfalse fun c => by have := h.i5 c; rw [h4] at this; cases this⟩
theorem MsgS.n1 (h : MsgS w R A C b0 false b2 b3 b4 b5 v0 v1 v2 v3 v4 v5 W) : b2 = false ∧ b4 = false ∧ b5 = false := by
 have h2 : b2 = false := bfalse fun c => by have := (h.i2 c).2; cases this
 have h4 : b4 = false := bfalse fun c => by have := (h.i4 c).1; rw [h2] at this; cases this
 exact ⟨h2, h4, bfalse fun c => by have := h.i5 c; rw [h4] at this; cases this⟩
theorem MsgS.n2 (h : MsgS w R A C b0 b1 false b3 b4 b5 v0 v1 v2 v3 v4 v5 W) : b4 = false ∧ b5 = false := by
 have h4 : b4 = false := bfalse fun c => by have := (h.i4 c).1; cases this
 exact ⟨h4, bfalse fun c => by have := h.i5 c; rw [h4] at this; cases this⟩
theorem MsgS.n3 (h : MsgS w R A C b0 b1 b2 false b4 b5 v0 v1 v2 v3 v4 v5 W) : b4 = false ∧ b5 = false := by
 have h4 : b4 = false := bfalse fun c => by have := (h.i4 c).2; cases this
 exact ⟨h4, bfalse fun c => by have := h.i5 c; rw [h4] at this; cases this⟩
theorem MsgS.n4 (h : MsgS w R A C b0 b1 b2 b3 false b5 v0 v1 v2 v3 v4 v5 W) : b5 = false := bfalse fun c => by have := h.i5 c; cases this
theorem MsgS.step (h : MsgS w R A C b0 b1 b2 b3 b4 b5 v0 v1 v2 v3 v4 v5 W) (hb : Below W.heap.size W w2) : MsgS w R A C b0 b1 b2 b3 b4 b5 v0 v1 v2 v3 v4 v5 w2 := ⟨h.mr.step hb, h.i2, h.i4, h.i5, h.e5⟩
theorem own_blk {B g E sz n : Nat} {cs : List Value} (h : w2.heap[g]? = some (.cells cs.toArray E (0, 0))) (hc : cs.length = n * sz) (hn : n ≤ maxLen) (hB : B ≤ g) : w2.ownsRow B E sz (.slice (some ⟨g, 0, none⟩) n n) n cs :=
 ⟨by rw [hc], Or.inr ⟨g, n, cs.toArray, rfl, hB, h, Nat.le_refl _, hn, by simpa using hc, by rw [← hc]; simp⟩⟩
theorem MsgS.mk0 (h : MsgS w R A C false b1 false b3 false false v0 v1 v2 v3 v4 v5 W) (hb : Below W.heap.size W w2) (ho : w2.ownsRow W.heap.size 5 1 v R.length (byC R)) : MsgS w R A C true b1 false b3 false false v v1 v2 v3 v4 v5 w2 :=
 ⟨(h.mr.call (r := yR v R) 0 hb ho).congr (f3_0 (x := none)), (fun e => by cases e), h.i4, h.i5, h.e5⟩
theorem MsgS.mk1 (h : MsgS w R A C b0 false false b3 false false v0 v1 v2 v3 v4 v5 W) (hb : Below W.heap.size W w2) (ho : w2.ownsRow W.heap.size 5 1 v A.length (byC A)) : MsgS w R A C b0 true false b3 false false v0 v v2 v3 v4 v5 w2 :=
 ⟨(h.mr.call (r := yR v A) 1 hb ho).congr (f3_1 (y := none)), (fun e => by cases e), h.i4, h.i5, h.e5⟩
theorem MsgS.mk3 (h : MsgS w R A C b0 b1 b2 false false false v0 v1 v2 v3 v4 v5 W) : MsgS w R A C b0 b1 b2 true false false v0 v1 v2 (.slice (some ⟨W.heap.size, 0, none⟩) 1 1) v4 v5 (W.alloc (.cells #[.int .u8 (C : Int)] 5)) :=
 ⟨(h.mr.fresh 2 #[.int .u8 (C : Int)] 5 1 1 (by unfold maxLen; omega) rfl).congr (f3_2 (z := none)), h.i2, (fun e => by cases e), h.i5, h.e5⟩
theorem m_app {B : Nat} {L : Nat → Option Obj} {f : Nat → Option Rw} {s t : Nat} {R A : List Nat} {v p : Value} {o : Oper} {a : Act} {K : Act → World → Prop} {Q : Exit → Act → World → Prop} (h : MR w B L f W) (hs : f s = some (yR v R)) (hp : f t = some (yR p A))
  (x y : Operand) (ho : o.op = .call { callee := .builtin .append, args := #[x, y], argTypes := #[88, 88] }) (hx : a.eval x = v) (hy : a.eval y = p) (hl : R.length + A.length ≤ 1000000)
  (hK : ∀ v' W', MR w B L (updF f s (some (yR v' (R ++ A)))) W' → K (a.put o.dst v') W') : o.wp Tryz.prog a W K Q := by
 obtain ⟨i0, hi, hz0, hz1, hz2⟩ := info_parts info8
 obtain ⟨ad, c, e1, e2⟩ := Rw.Own.get (h.own t _ hp)
 dsimp only [yR] at e1 e2
 subst e1
 refine wp_app (P := Tryz.prog) W x y 88 ho B 5 i0 (.int .u8 0) 1 1 Tryz.underlying88 hi hz0 hz1 hz2 rfl (by decide) v R.length (byC R) hx (h.own s _ hs) ad A.length c (byC A) hy (by rw [byC_len]; omega) (fun hn => ?_) (byC_one A) (by unfold maxLen; omega) (by omega) h.sz fun v' W' q1 q2 q3 => hK v' W' ?_
 ·obtain ⟨g, rfl, -, hc⟩ := e2 hn
  exact ⟨g, 0, rfl, fun j u hj => by rw [Nat.zero_add]; exact hc j u hj⟩
 ·refine h.app s (r := yR v R) (r' := yR v' (R ++ A)) hs ?_ q2 q3
  show W'.ownsRow B 5 1 v' (R ++ A).length (byC (R ++ A))
  rw [List.length_append, byC_app]
  exact q1
theorem MsgS.app2 {o : Oper} {a : Act} {K : Act → World → Prop} {Q : Exit → Act → World → Prop} (h : MsgS w R A C true true false b3 false false v0 v1 v2 v3 v4 v5 W) (hl : R.length + A.length ≤ 1000000)
  (x y : Operand) (ho : o.op = .call { callee := .builtin .append, args := #[x, y], argTypes := #[88, 88] }) (hx : a.eval x = v0) (hy : a.eval y = v1)
  (hK : ∀ v' W', MsgS w R A C true true true b3 false false v0 v1 v' v3 v4 v5 W' → K (a.put o.dst v') W') : o.wp Tryz.prog a W K Q :=
 m_app (s := 0) (t := 1) h.mr rfl rfl x y ho hx hy hl fun v' W' k => hK v' W' ⟨k.congr (f3_0 (x := some (yR v0 R))), (fun _ => ⟨rfl, rfl⟩), (fun e => by cases e), h.i5, h.e5⟩
theorem MsgS.app4 {o : Oper} {a : Act} {K : Act → World → Prop} {Q : Exit → Act → World → Prop} (h : MsgS w R A C b0 b1 true true false false v0 v1 v2 v3 v4 v5 W) (hl : R.length + A.length ≤ 100000)
  (x y : Operand) (ho : o.op = .call { callee := .builtin .append, args := #[x, y], argTypes := #[88, 88] }) (hx : a.eval x = v2) (hy : a.eval y = v3)
  (hK : ∀ v' W', MsgS w R A C b0 b1 true true true false v0 v1 v2 v3 v' v5 W' → K (a.put o.dst v') W') : o.wp Tryz.prog a W K Q :=
 m_app (s := 0) (t := 2) h.mr rfl rfl x y ho hx hy (by rw [List.length_append, List.length_singleton]; omega) fun v' W' k => hK v' W' ⟨k.congr (f3_0 (x := some (yR v2 (R ++ A)))), h.i2, (fun _ => ⟨rfl, rfl⟩), (fun e => by cases e), (fun e => by cases e)⟩
theorem MsgS.mk5 (h : MsgS w R A C b0 b1 b2 b3 true false v0 v1 v2 v3 v4 v5 W) : MsgS w R A C b0 b1 b2 b3 true true v0 v1 v2 v3 v4 v4 W := ⟨h.mr, h.i2, h.i4, (fun _ => rfl), fun _ => rfl⟩
theorem MsgS.fin (h : MsgS w R A C b0 b1 b2 b3 true true v0 v1 v2 v3 v4 v5 W) : v5 = v4 ∧ W.ownsRow w.heap.size 5 1 v4 (R ++ A ++ [C]).length (byC (R ++ A ++ [C])) ∧ Below w.heap.size w W := ⟨h.e5 rfl, h.mr.own 0 _ rfl, h.mr.bel⟩
theorem MsgS.start (h : Below w.heap.size w W) : MsgS w R A C false false false false false false v0 v1 v2 v3 v4 v5 W :=
 ⟨(MR.start (Nat.le_refl _) h h.size (fun p o e => by cases e)).congr fun s => by unfold f3 ro; simp, (fun e => by cases e), (fun e => by cases e), (fun e => by cases e), (fun e => by cases e)⟩
end
set_option maxHeartbeats 4000000 in
set_option maxRecDepth 20000 in
theorem Message_any (head by_ : Nat) (e : Evt) (w : World) (hh : head < 18446744073709551616) (hok : okX e = true) (h1 : e.2.2.2.2.1.size ≤ 100 ∧ e.2.2.2.2.2.size ≤ 100) :
  Calls Tryz.prog 114 #[.int .u64 (head : Int), evX e, .int .i64 (by_ : Int)] w fun en w' => ∃ v, en = .returned v ∧ w'.ownsRow w.heap.size 5 1 v (msgE head e by_).length (byC (msgE head e by_)) ∧ Below w.heap.size w w' := by
 have CR := Lib.hid (fun W => rraw_ok e W hok h1)
 have CB := Lib.hid (fun W => big_any head 4 hh (by decide) (by decide) W)
 have HML := Lib.hid (bytX_len e hok h1)
 obtain ⟨k, t, a, b, nm, ot⟩ := e
 have HME : Hid (msgE head (k, t, a, b, nm, ot) by_ = bigL head 4 ++ bytX (k, t, a, b, nm, ot) ++ [by_ % 256]) := rfl
 replace CR : Hid (∀ W, Calls Tryz.prog 142 #[.agg #[.int .i64 k, .int .i64 t, .int .i64 a, .int .i64 b, .string nm, .string ot]] W fun en w' => ∃ v, en = .returned v ∧ w'.ownsRow W.heap.size 5 1 v (bytX (k, t, a, b, nm, ot)).length (byC (bytX (k, t, a, b, nm, ot))) ∧ Below W.heap.size W w') := CR
 have HX := Lib.hid (blk_new w (.cells #[.int .i64 k, .int .i64 t, .int .i64 a, .int .i64 b, .string nm, .string ot] 29))
 have HB0 := Lib.hid (bAl (W := w) (o := .cells #[.int .i64 k, .int .i64 t, .int .i64 a, .int .i64 b, .string nm, .string ot] 29))
 have hw8 := u8_nat by_
 change Calls Tryz.prog 114 #[.int .u64 (head : Int), .agg #[.int .i64 k, .int .i64 t, .int .i64 a, .int .i64 b, .string nm, .string ot], .int .i64 (by_ : Int)] w _
 generalize hA : bytX (k, t, a, b, nm, ot) = A at *
 generalize hC : by_ % 256 = C at *
 clear hA hC hok h1 hh
 go_enter Tryz.func114, Tryz.ntmps114
 go_upto_region 1 with fail
 generalize w.alloc (.cells #[.int .i64 k, .int .i64 t, .int .i64 a, .int .i64 b, .string nm, .string ot] 29) = w0 at *
 refine region_all 10 7 16 [(1, 8), (3, 10), (4, 11), (7, 14), (8, 15), (9, 6)] [(none, []), (some 0, []), (none, []), (some 1, []), (some 2, [0, 1]), (none, []), (none, []), (some 3, []), (some 4, [2, 3]), (some 5, [4])] [(7, (.int .u64 (head : Int))), (9, (.agg #[.int .i64 k, .int .i64 t, .int .i64 a, .int .i64 b, .string nm, .string ot])), (12, (.int .i64 (by_ : Int))), (13, (.int .u8 (C : Int)))] (fun bsE vsE W => MsgS w0 (bigL head 4) A C (bsE.getD 0 false) (bsE.getD 1 false) (bsE.getD 2 false) (bsE.getD 3 false) (bsE.getD 4 false) (bsE.getD 5 false) ((vsE.getD 0 undef)) ((vsE.getD 1 undef)) ((vsE.getD 2 undef)) ((vsE.getD 3 undef)) ((vsE.getD 4 undef)) ((vsE.getD 5 undef)) W) (by kernel_rfl) (by kernel_rfl) rfl rfl (by kernel_rfl) (by rfl) ?h0 ?each ?done
 case h0 =>
  intro vsE hlv
  obtain ⟨v0, vsE0, rfl, hlv0⟩ := len_one hlv
  obtain ⟨v1, vsE1, rfl, hlv1⟩ := len_one hlv0
  obtain ⟨v2, vsE2, rfl, hlv2⟩ := len_one hlv1
  obtain ⟨v3, vsE3, rfl, hlv3⟩ := len_one hlv2
  obtain ⟨v4, vsE4, rfl, hlv4⟩ := len_one hlv3
  obtain ⟨v5, vsE5, rfl, hlv5⟩ := len_one hlv4
  obtain rfl := len_nil hlv5
  exact MsgS.start (Below.refl _ _).drew
 case each =>
  simp only [AllE]
  refine ⟨⟨7, (.int .u64 (head : Int)), rfl, by kernel_rfl, ?_⟩, Or.inl ⟨8, rfl, ?q1_1⟩, ⟨9, (.agg #[.int .i64 k, .int .i64 t, .int .i64 a, .int .i64 b, .string nm, .string ot]), rfl, by kernel_rfl, ?_⟩, Or.inl ⟨10, rfl, ?q1_3⟩, Or.inl ⟨11, rfl, ?q1_4⟩, ⟨12, (.int .i64 (by_ : Int)), rfl, by kernel_rfl, ?_⟩, ⟨13, (.int .u8 (C : Int)), rfl, by kernel_rfl, ?_⟩, Or.inl ⟨14, rfl, ?q1_7⟩, Or.inl ⟨15, rfl, ?q1_8⟩, Or.inl ⟨6, rfl, ?q1_9⟩, trivial⟩
  case q1_1 =>
   intro bsE vsE W hlb hlv hnd hbk h
   obtain ⟨b0, bsE0, rfl, hlb0⟩ := len_one hlb
   obtain ⟨v0, vsE0, rfl, hlv0⟩ := len_one hlv
   obtain ⟨b1, bsE1, rfl, hlb1⟩ := len_one hlb0
   obtain ⟨v1, vsE1, rfl, hlv1⟩ := len_one hlv0
   obtain ⟨b2, bsE2, rfl, hlb2⟩ := len_one hlb1
   obtain ⟨v2, vsE2, rfl, hlv2⟩ := len_one hlv1
   obtain ⟨b3, bsE3, rfl, hlb3⟩ := len_one hlb2
   obtain ⟨v3, vsE3, rfl, hlv3⟩ := len_one hlv2
   obtain ⟨b4, bsE4, rfl, hlb4⟩ := len_one hlb3
   obtain ⟨v4, vsE4, rfl, hlv4⟩ := len_one hlv3
   obtain ⟨b5, bsE5, rfl, hlb5⟩ := len_one hlb4
   obtain ⟨v5, vsE5, rfl, hlv5⟩ := len_one hlv4
   obtain rfl := len_nil hlb5
   obtain rfl := len_nil hlv5
   obtain rfl : b0 = false := hbk
   replace h : MsgS w0 (bigL head 4) A C false b1 b2 b3 b4 b5 (v0) (v1) (v2) (v3) (v4) (v5) W := h
   clear hnd
   have HST := Lib.hid h
   obtain ⟨rfl, rfl, rfl⟩ := h.n0; skip
   intro K Q hK
   simp only [putE, updAll, Act.put, List.setIfInBounds_toArray, List.set_cons_zero, List.set_cons_succ, List.set_nil] at hK ⊢
   go_wp2_with (go_at_call 141; refine (CB.out _).mono ?_; rintro e w1 ⟨rfl, hp, hb1⟩)
   all_goals (have hm := h.mk0 hb1 (by rw [bigL_len]; exact own_blk hp (by rw [byC_len, bigL_len]) (by unfold maxLen; omega) (Nat.le_refl _)))
   all_goals (first | exact hK _ _ hm | exact hm)
  case q1_3 =>
   intro bsE vsE W hlb hlv hnd hbk h
   obtain ⟨b0, bsE0, rfl, hlb0⟩ := len_one hlb
   obtain ⟨v0, vsE0, rfl, hlv0⟩ := len_one hlv
   obtain ⟨b1, bsE1, rfl, hlb1⟩ := len_one hlb0
   obtain ⟨v1, vsE1, rfl, hlv1⟩ := len_one hlv0
   obtain ⟨b2, bsE2, rfl, hlb2⟩ := len_one hlb1
   obtain ⟨v2, vsE2, rfl, hlv2⟩ := len_one hlv1
   obtain ⟨b3, bsE3, rfl, hlb3⟩ := len_one hlb2
   obtain ⟨v3, vsE3, rfl, hlv3⟩ := len_one hlv2
   obtain ⟨b4, bsE4, rfl, hlb4⟩ := len_one hlb3
   obtain ⟨v4, vsE4, rfl, hlv4⟩ := len_one hlv3
   obtain ⟨b5, bsE5, rfl, hlb5⟩ := len_one hlb4
   obtain ⟨v5, vsE5, rfl, hlv5⟩ := len_one hlv4
   obtain rfl := len_nil hlb5
   obtain rfl := len_nil hlv5
   obtain rfl : b1 = false := hbk
   replace h : MsgS w0 (bigL head 4) A C b0 false b2 b3 b4 b5 (v0) (v1) (v2) (v3) (v4) (v5) W := h
   clear hnd
   have HST := Lib.hid h
   obtain ⟨rfl, rfl, rfl⟩ := h.n1; skip
   intro K Q hK
   simp only [putE, updAll, Act.put, List.setIfInBounds_toArray, List.set_cons_zero, List.set_cons_succ, List.set_nil] at hK ⊢
   go_wp2_with (go_at_call 142; refine (CR.out _).mono ?_; rintro e w1 ⟨vq, rfl, hp, hb1⟩)
   all_goals (have hm := h.mk1 hb1 hp)
   all_goals (first | exact hK _ _ hm | exact hm)
  case q1_4 =>
   intro bsE vsE W hlb hlv hnd hbk h
   obtain ⟨b0, bsE0, rfl, hlb0⟩ := len_one hlb
   obtain ⟨v0, vsE0, rfl, hlv0⟩ := len_one hlv
   obtain ⟨b1, bsE1, rfl, hlb1⟩ := len_one hlb0
   obtain ⟨v1, vsE1, rfl, hlv1⟩ := len_one hlv0
   obtain ⟨b2, bsE2, rfl, hlb2⟩ := len_one hlb1
   obtain ⟨v2, vsE2, rfl, hlv2⟩ := len_one hlv1
   obtain ⟨b3, bsE3, rfl, hlb3⟩ := len_one hlb2
   obtain ⟨v3, vsE3, rfl, hlv3⟩ := len_one hlv2
   obtain ⟨b4, bsE4, rfl, hlb4⟩ := len_one hlb3
   obtain ⟨v4, vsE4, rfl, hlv4⟩ := len_one hlv3
   obtain ⟨b5, bsE5, rfl, hlb5⟩ := len_one hlb4
   obtain ⟨v5, vsE5, rfl, hlv5⟩ := len_one hlv4
   obtain rfl := len_nil hlb5
   obtain rfl := len_nil hlv5
   obtain rfl : b0 = true := hnd 0 (by simp)
   obtain rfl : b1 = true := hnd 1 (by simp)
   obtain rfl : b2 = false := hbk
   replace h : MsgS w0 (bigL head 4) A C true true false b3 b4 b5 (v0) (v1) (v2) (v3) (v4) (v5) W := h
   clear hnd
   have HST := Lib.hid h
   obtain ⟨rfl, rfl⟩ := h.n2
   intro K Q hK
   simp only [putE, updAll, Act.put, List.setIfInBounds_toArray, List.set_cons_zero, List.set_cons_succ, List.set_nil] at hK ⊢
   refine h.app2 (by rw [bigL_len]; have := HML.out; omega) (.tmp 8) (.tmp 10) rfl rfl rfl ?_
   intro v' W' k9
   first | exact hK _ _ k9 | exact k9
  case q1_7 =>
   intro bsE vsE W hlb hlv hnd hbk h
   obtain ⟨b0, bsE0, rfl, hlb0⟩ := len_one hlb
   obtain ⟨v0, vsE0, rfl, hlv0⟩ := len_one hlv
   obtain ⟨b1, bsE1, rfl, hlb1⟩ := len_one hlb0
   obtain ⟨v1, vsE1, rfl, hlv1⟩ := len_one hlv0
   obtain ⟨b2, bsE2, rfl, hlb2⟩ := len_one hlb1
   obtain ⟨v2, vsE2, rfl, hlv2⟩ := len_one hlv1
   obtain ⟨b3, bsE3, rfl, hlb3⟩ := len_one hlb2
   obtain ⟨v3, vsE3, rfl, hlv3⟩ := len_one hlv2
   obtain ⟨b4, bsE4, rfl, hlb4⟩ := len_one hlb3
   obtain ⟨v4, vsE4, rfl, hlv4⟩ := len_one hlv3
   obtain ⟨b5, bsE5, rfl, hlb5⟩ := len_one hlb4
   obtain ⟨v5, vsE5, rfl, hlv5⟩ := len_one hlv4
   obtain rfl := len_nil hlb5
   obtain rfl := len_nil hlv5
   obtain rfl : b3 = false := hbk
   replace h : MsgS w0 (bigL head 4) A C b0 b1 b2 false b4 b5 (v0) (v1) (v2) (v3) (v4) (v5) W := h
   clear hnd
   have HST := Lib.hid h
   obtain ⟨rfl, rfl⟩ := h.n3
   intro K Q hK
   simp only [putE, updAll, Act.put, List.setIfInBounds_toArray, List.set_cons_zero, List.set_cons_succ, List.set_nil] at hK ⊢
   go_wp2_with fail
   all_goals (have hm := h.mk3)
   all_goals (first | exact hK _ _ hm | exact hm)
  case q1_8 =>
   intro bsE vsE W hlb hlv hnd hbk h
   obtain ⟨b0, bsE0, rfl, hlb0⟩ := len_one hlb
   obtain ⟨v0, vsE0, rfl, hlv0⟩ := len_one hlv
   obtain ⟨b1, bsE1, rfl, hlb1⟩ := len_one hlb0
   obtain ⟨v1, vsE1, rfl, hlv1⟩ := len_one hlv0
   obtain ⟨b2, bsE2, rfl, hlb2⟩ := len_one hlb1
   obtain ⟨v2, vsE2, rfl, hlv2⟩ := len_one hlv1
   obtain ⟨b3, bsE3, rfl, hlb3⟩ := len_one hlb2
   obtain ⟨v3, vsE3, rfl, hlv3⟩ := len_one hlv2
   obtain ⟨b4, bsE4, rfl, hlb4⟩ := len_one hlb3
   obtain ⟨v4, vsE4, rfl, hlv4⟩ := len_one hlv3
   obtain ⟨b5, bsE5, rfl, hlb5⟩ := len_one hlb4
   obtain ⟨v5, vsE5, rfl, hlv5⟩ := len_one hlv4
   obtain rfl := len_nil hlb5
   obtain rfl := len_nil hlv5
   obtain rfl : b2 = true := hnd 2 (by simp)
   obtain rfl : b3 = true := hnd 3 (by simp)
   obtain rfl : b4 = false := hbk
   replace h : MsgS w0 (bigL head 4) A C b0 b1 true true false b5 (v0) (v1) (v2) (v3) (v4) (v5) W := h
   clear hnd
   have HST := Lib.hid h
   obtain rfl := h.n4
   intro K Q hK
   simp only [putE, updAll, Act.put, List.setIfInBounds_toArray, List.set_cons_zero, List.set_cons_succ, List.set_nil] at hK ⊢
   refine h.app4 (by rw [bigL_len]; have := HML.out; omega) (.tmp 11) (.tmp 14) rfl rfl rfl ?_
   intro v' W' k9
   first | exact hK _ _ k9 | exact k9
  case q1_9 =>
   intro bsE vsE W hlb hlv hnd hbk h
   obtain ⟨b0, bsE0, rfl, hlb0⟩ := len_one hlb
   obtain ⟨v0, vsE0, rfl, hlv0⟩ := len_one hlv
   obtain ⟨b1, bsE1, rfl, hlb1⟩ := len_one hlb0
   obtain ⟨v1, vsE1, rfl, hlv1⟩ := len_one hlv0
   obtain ⟨b2, bsE2, rfl, hlb2⟩ := len_one hlb1
   obtain ⟨v2, vsE2, rfl, hlv2⟩ := len_one hlv1
   obtain ⟨b3, bsE3, rfl, hlb3⟩ := len_one hlb2
   obtain ⟨v3, vsE3, rfl, hlv3⟩ := len_one hlv2
   obtain ⟨b4, bsE4, rfl, hlb4⟩ := len_one hlb3
   obtain ⟨v4, vsE4, rfl, hlv4⟩ := len_one hlv3
   obtain ⟨b5, bsE5, rfl, hlb5⟩ := len_one hlb4
   obtain ⟨v5, vsE5, rfl, hlv5⟩ := len_one hlv4
   obtain rfl := len_nil hlb5
   obtain rfl := len_nil hlv5
   obtain rfl : b4 = true := hnd 4 (by simp)
   obtain rfl : b5 = false := hbk
   replace h : MsgS w0 (bigL head 4) A C b0 b1 b2 b3 true false (v0) (v1) (v2) (v3) (v4) (v5) W := h
   clear hnd
   have HST := Lib.hid h
   skip
   intro K Q hK
   simp only [putE, updAll, Act.put, List.setIfInBounds_toArray, List.set_cons_zero, List.set_cons_succ, List.set_nil] at hK ⊢
   go_wp2_with fail
   all_goals (have hm := h.mk5)
   all_goals (first | exact hK _ _ hm | exact hm)
  all_goals
   intro bsE vsE W hlb hlv hnd h
   obtain ⟨b0, bsE0, rfl, hlb0⟩ := len_one hlb
   obtain ⟨v0, vsE0, rfl, hlv0⟩ := len_one hlv
   obtain ⟨b1, bsE1, rfl, hlb1⟩ := len_one hlb0
   obtain ⟨v1, vsE1, rfl, hlv1⟩ := len_one hlv0
   obtain ⟨b2, bsE2, rfl, hlb2⟩ := len_one hlb1
   obtain ⟨v2, vsE2, rfl, hlv2⟩ := len_one hlv1
   obtain ⟨b3, bsE3, rfl, hlb3⟩ := len_one hlb2
   obtain ⟨v3, vsE3, rfl, hlv3⟩ := len_one hlv2
   obtain ⟨b4, bsE4, rfl, hlb4⟩ := len_one hlb3
   obtain ⟨v4, vsE4, rfl, hlv4⟩ := len_one hlv3
   obtain ⟨b5, bsE5, rfl, hlb5⟩ := len_one hlb4
   obtain ⟨v5, vsE5, rfl, hlv5⟩ := len_one hlv4
   obtain rfl := len_nil hlb5
   obtain rfl := len_nil hlv5
   replace h : MsgS w0 (bigL head 4) A C b0 b1 b2 b3 b4 b5 (v0) (v1) (v2) (v3) (v4) (v5) W := h
   clear hnd
   have HST := Lib.hid h
   have HBX := Lib.hid (blk_step HX.out h.mr.bel); have x0 := blk_cell (o := 0) HBX.out rfl; have x1 := blk_cell (o := 1) HBX.out rfl; have x2 := blk_cell (o := 2) HBX.out rfl; have x3 := blk_cell (o := 3) HBX.out rfl; have x4 := blk_cell (o := 4) HBX.out rfl; have x5 := blk_cell (o := 5) HBX.out rfl; have xl := blk_lt HBX.out
   intro K Q hK
   simp only [putE, updAll, Act.put, List.setIfInBounds_toArray, List.set_cons_zero, List.set_cons_succ, List.set_nil] at hK ⊢
   go_wp2_with (fail)
   all_goals (first | exact hK _ h | exact h)
 case done =>
  intro vsE W hlv h
  obtain ⟨v0, vsE0, rfl, hlv0⟩ := len_one hlv
  obtain ⟨v1, vsE1, rfl, hlv1⟩ := len_one hlv0
  obtain ⟨v2, vsE2, rfl, hlv2⟩ := len_one hlv1
  obtain ⟨v3, vsE3, rfl, hlv3⟩ := len_one hlv2
  obtain ⟨v4, vsE4, rfl, hlv4⟩ := len_one hlv3
  obtain ⟨v5, vsE5, rfl, hlv5⟩ := len_one hlv4
  obtain rfl := len_nil hlv5
  replace h : MsgS w0 (bigL head 4) A C true true true true true true (v0) (v1) (v2) (v3) (v4) (v5) W := h
  have HST := Lib.hid h
  obtain ⟨e9, ho9, hb9⟩ := h.fin
  clear HST h
  subst e9
  have HF := Lib.hid (And.intro ho9 hb9)
  clear ho9 hb9
  simp only [putE, updAll, Act.put, List.setIfInBounds_toArray, List.set_cons_zero, List.set_cons_succ, List.set_nil]
  go_wp2_with fail
  exact bodyPost_ret (v := v5) (by simp only [results, Tryz.results114]; go_simp) rfl ⟨v5, rfl, by rw [HME.out]; exact own_base HF.out.1 HB0.out.size, bStep HB0.out HF.out.2⟩
end Go.Proofs.YtmpilgkfbibhlaaGreatDoor
namespace Go.Proofs.YtmpilgkfbibhlaaGreatDoor
open Sx Go.RowKit
theorem prV (x y t1 t2 : Int) : eqV tbl 50 101 (.agg [.i .i64 x false, .i .i64 y false]) (.agg [.i .i64 t1 false, .i .i64 t2 false]) = some ((x == t1) && (y == t2), false) := by kernel_rfl
theorem pr_run (x y t1 t2 : Int) (W : World) : (Op.equalIn 10000 101 (.agg #[.int .i64 x, .int .i64 y]) (.agg #[.int .i64 t1, .int .i64 t2])).run Tryz.prog W = .ok ((x == t1) && (y == t2)) W :=
 eqV_ok tbl_ok 50 9950 _ _ _ _ (prV x y t1 t2) env0 W
theorem prguard : Tryz.prog.eqGuardType Tryz.prog.depth 101 = false := by kernel_rfl
theorem quiet_preql {o : Oper} {a : Act} {C : World → Prop} {next : Act → Prop} (x1 y1 x2 y2 : Int) (x y : Operand) (u : TypeId) (ho : o.op = .binOp .eql 101 x y u) (hx : a.eval x = .agg #[.int .i64 x1, .int .i64 y1]) (hy : a.eval y = .agg #[.int .i64 x2, .int .i64 y2])
  {b : Bool} (hb : ((x1 == x2) && (y1 == y2)) = b) (h : next (a.put o.dst (.bool b))) : o.quiet Tryz.prog a C next := by
 subst hb
 refine ⟨.bool ((x1 == x2) && (y1 == y2)), fun w _ => ?_, h⟩
 unfold Oper.quietAt execOp
 simp only [ho, hx, hy, Sem.run_bind, Sem.run_pure, run_eqGuard_agg _ _ _ _ _ _ _ prguard, Result.andThen_ok, run_eql_struct, pr_run x1 y1 x2 y2 w]
 exact ⟨rfl, rfl⟩
end Go.Proofs.YtmpilgkfbibhlaaGreatDoor
namespace Go.Proofs.YtmpilgkfbibhlaaGreatDoor
open Go.RowKit Go.Instr Go.ChangeMaps
theorem checkKey_int {P : Program} {w : World} {k : TypeId} {q : IntKind} (hk : P.underlying k = some (.int q)) (em : Bool) (v : Value) : (checkKey em 10000 k v).run P w = .ok () w := by
 unfold checkKey
 simp [run_underlying hk]
theorem findKey_int {P : Program} {w : World} {k : TypeId} {q : IntKind} (hk : P.underlying k = some (.int q)) {v : Value} {es : List MapEntry} {r : Option (Nat × Value)} (h : findNow (.int q) v es 0 = some r) : (findKey k v es).run P w = .ok r w := by
 unfold findKey
 simp [run_underlying hk, h]
theorem run_insert {P : Program} {w : World} {t k e : TypeId} {q : IntKind} {b clock : Nat} {es : Array MapEntry} {key val : Value} (ht : P.underlying t = some (.map k e)) (hk : P.underlying k = some (.int q)) (hb : w.heap[b]? = some (.map es clock)) (h : findNow (.int q) key es.toList 0 = some none) :
  (mapUpdate t (.map (some b)) key val).run P w = .ok () (setBlock w b (.map (es.push { key, val, born := clock }) (clock + 1))) := by
 unfold mapUpdate
 simp [run_underlying ht, MapKept.run_getObj_map hb, checkKey_int hk, findKey_int hk h, Result.andThen, MapKept.run_setObj_map _ hb, setBlock]
theorem run_look {P : Program} {w : World} {t k e : TypeId} {q : IntKind} {b clock i : Nat} {es : Array MapEntry} {key val : Value} (ht : P.underlying t = some (.map k e)) (hk : P.underlying k = some (.int q)) (hb : w.heap[b]? = some (.map es clock)) (h : findNow (.int q) key es.toList 0 = some (some (i, val))) :
  (lookup t (.map (some b)) key true).run P w = .ok (.tuple #[val, .bool true]) w := by
 unfold lookup
 simp [run_underlying ht, MapKept.run_getObj_map hb, checkKey_int hk, findKey_int hk h, Result.andThen]
theorem run_look_no {P : Program} {w : World} {t k e : TypeId} {q : IntKind} {b clock : Nat} {es : Array MapEntry} {key z : Value} (ht : P.underlying t = some (.map k e)) (hk : P.underlying k = some (.int q)) (hb : w.heap[b]? = some (.map es clock)) (h : findNow (.int q) key es.toList 0 = some none) (hz : (zeroValue e).run P w = .ok z w) :
  (lookup t (.map (some b)) key true).run P w = .ok (.tuple #[z, .bool false]) w := by
 unfold lookup
 simp [run_underlying ht, MapKept.run_getObj_map hb, checkKey_int hk, findKey_int hk h, hz, Result.andThen]
theorem wpList_insert {P : Program} {w : World} {ops : Array Oper} {rest : List Oper} {o : Oper} {a : Act} {Q : Exit → Act → World → Prop}
  (hg : o.guard = none) (m x v : Operand) (t : TypeId) (hop : o.op = Op.insert t m x v) (k e : TypeId) (q : IntKind) (ht : P.underlying t = some (.map k e)) (hk : P.underlying k = some (.int q))
  (b clock : Nat) (es : Array MapEntry) (hb : w.heap[b]? = some (.map es clock)) (key val : Value) (hm : a.eval m = .map (some b)) (hx : a.eval x = key) (hv : a.eval v = val) (h : findNow (.int q) key es.toList 0 = some none)
  (hK : ∀ w', w'.heap[b]? = some (.map (es.push { key, val, born := clock }) (clock + 1)) → w.grownBy w' (some b) → wpList P ops Q rest (a.put o.dst undef) w') :
  wpList P ops Q (o :: rest) a w := by
 refine wpList_plain hg fun K' hK' => ?_
 have hrun := run_insert (val := val) ht hk hb h
 unfold Oper.wp
 simp [execOp, hop, hm, hx, hv, hrun, Result.andThen]
 exact hK' _ _ (hK _ (heap_setBlock_same hb _) ⟨rfl, rfl, rfl, by simp [setBlock], fun i _ hi => heap_setBlock_other hb _ (fun e => hi (by rw [e]))⟩)
theorem wpList_insert2 {P : Program} {w : World} {ops : Array Oper} {rest : List Oper} {a : Act} {Q : Exit → Act → World → Prop} {m x v : Operand} {t ty k e : TypeId} {ps : String} {af : Array Edge} {q : IntKind} {b clock : Nat} {es : Array MapEntry} {key val : Value}
  (hb : w.heap[b]? = some (.map es clock)) (ht : P.underlying t = some (.map k e)) (hk : P.underlying k = some (.int q)) (hm : a.eval m = .map (some b)) (hx : a.eval x = key) (hv : a.eval v = val) (h : findNow (.int q) key es.toList 0 = some none)
  (hK : ∀ w', w'.heap[b]? = some (.map (es.push { key, val, born := clock }) (clock + 1)) → w.grownBy w' (some b) → wpList P ops Q rest (a.put none undef) w') :
  wpList P ops Q ({ dst := none, op := .insert t m x v, type := ty, pos := ps, after := af, guard := none } :: rest) a w :=
 wpList_insert rfl m x v t rfl k e q ht hk b clock es hb key val hm hx hv h hK
end Go.Proofs.YtmpilgkfbibhlaaGreatDoor
