/-
 The laws' worlds: names, batches.
-/
import Derived.Test.YtmpilgkfbibhlaaGreatDoorG31R
set_option linter.unusedSimpArgs false
set_option linter.unusedVariables false
namespace Go.Proofs.YtmpilgkfbibhlaaGreatDoor
open Sx Go.RowKit Mr
def ch (n : Nat) : ByteArray := ⟨#[UInt8.ofNat n]⟩
theorem rune1 (W : World) (n : Nat) (hn : n < 128) : (convert 21 9 (.int .i32 (n : Int))).run Tryz.prog W = .ok (.string (ch n)) W := by
 have hs := Tryz.underlying21
 have hd := Tryz.underlying9
 unfold convert
 simp [run_underlying hs, run_underlying hd]
 have hv : Utf8.valid (n : Int) = true := by unfold Utf8.valid; simp; omega
 unfold Conv.intToString Utf8.encode
 rw [hv]
 simp [hn, ch]
def nameP (n : Nat) : ByteArray := ⟨#[112]⟩ ++ ch (97 + n % 26) ++ ch (97 + n / 26 % 26)
def batchP (n : Nat) : ByteArray := ⟨#[98]⟩ ++ ch (48 + n % 3)
theorem ba_size1 (x y : ByteArray) : (x ++ y).size = x.size + y.size := ByteArray.size_append
set_option maxHeartbeats 4000000 in
set_option maxRecDepth 20000 in
theorem name_any (n : Nat) (hn : n ≤ 10000) (w : World) : Calls Tryz.prog 53 #[.int .i64 (n : Int)] w fun en w' => en = .returned (.string (nameP n)) ∧ Below w.heap.size w w' := by
 unfold nameP
 have q1 : Int.tmod (n : Int) 26 = ((n % 26 : Nat) : Int) := by rw [Int.tmod_eq_emod_of_nonneg (by omega)]; rfl
 have q2 : Int.tdiv (n : Int) 26 = ((n / 26 : Nat) : Int) := by rw [Int.tdiv_eq_ediv_of_nonneg (by omega)]; rfl
 have q3 : Int.tmod ((n / 26 : Nat) : Int) 26 = ((n / 26 % 26 : Nat) : Int) := by rw [Int.tmod_eq_emod_of_nonneg (by omega)]; rfl
 have b1 : n % 26 < 26 := Nat.mod_lt _ (by decide)
 have b2 : n / 26 % 26 < 26 := Nat.mod_lt _ (by decide)
 have b3 : n / 26 ≤ 10000 := by omega
 generalize n % 26 = m1 at *
 generalize n / 26 % 26 = m2 at *
 generalize n / 26 = m3 at *
 have r1 := fun W => rune1 W (97 + m1) (by omega)
 have r2 := fun W => rune1 W (97 + m2) (by omega)
 have e1 : ((97 + m1 : Nat) : Int) = 97 + (m1 : Int) := by push_cast; rfl
 have e2 : ((97 + m2 : Nat) : Int) = 97 + (m2 : Int) := by push_cast; rfl
 rw [e1] at r1
 rw [e2] at r2
 have w1 : IntKind.i64.wrap (97 + (m1 : Int)) = 97 + (m1 : Int) := Go.IntWalk.i64_in _ ⟨by omega, by omega⟩
 have w2 : IntKind.i64.wrap (97 + (m2 : Int)) = 97 + (m2 : Int) := Go.IntWalk.i64_in _ ⟨by omega, by omega⟩
 have w3 : IntKind.i32.wrap (97 + (m1 : Int)) = 97 + (m1 : Int) := Go.IntWalk.i32_in _ ⟨by omega, by omega⟩
 have w4 : IntKind.i32.wrap (97 + (m2 : Int)) = 97 + (m2 : Int) := Go.IntWalk.i32_in _ ⟨by omega, by omega⟩
 clear e1 e2
 have s1 : (ch (97 + m1)).size = 1 := rfl
 have s2 : (ch (97 + m2)).size = 1 := rfl
 generalize ch (97 + m1) = c1 at *
 generalize ch (97 + m2) = c2 at *
 obtain ⟨t1, ht1⟩ : ∃ t1 : ByteArray, (⟨#[112]⟩ ++ c1 : ByteArray) = t1 := ⟨_, rfl⟩
 have s3 : t1.size = 2 := by rw [← ht1, ba_size1, s1]; rfl
 have z1 : ¬ 9223372036854775807 < (⟨#[112]⟩ : ByteArray).size + c1.size := by rw [s1]; decide
 have z2 : ¬ 9223372036854775807 < t1.size + c2.size := by rw [s3, s2]; decide
 rw [ht1]
 clear s1 s2 s3
 go_enter Tryz.func53, Tryz.ntmps53
 go_wp2_with fail
 exact bodyPost_ret (v := .string (t1 ++ c2)) (by simp only [results, Tryz.results53]; go_simp) rfl ⟨rfl, (by repeat' (first | exact Below.refl _ _ | assumption | apply bDrewN | apply bDrew | apply bAlloc | (refine bSet ?_ ?_ _) | (refine bStep ?_ (by assumption)) | omega | (simp <;> omega)))⟩
set_option maxHeartbeats 4000000 in
set_option maxRecDepth 20000 in
theorem batch_any (n : Nat) (hn : n < 256) (w : World) : Calls Tryz.prog 20 #[.int .u8 (n : Int)] w fun en w' => en = .returned (.string (batchP n)) ∧ Below w.heap.size w w' := by
 unfold batchP
 have q1 : Int.tmod (n : Int) 3 = ((n % 3 : Nat) : Int) := by rw [Int.tmod_eq_emod_of_nonneg (by omega)]; rfl
 have b1 : n % 3 < 3 := Nat.mod_lt _ (by decide)
 generalize n % 3 = m1 at *
 have r1 := fun W => rune1 W (48 + m1) (by omega)
 have e1 : ((48 + m1 : Nat) : Int) = 48 + (m1 : Int) := by push_cast; rfl
 rw [e1] at r1
 have w1 : IntKind.u8.wrap (48 + (m1 : Int)) = 48 + (m1 : Int) := Go.IntWalk.u8_in _ ⟨by omega, by omega⟩
 have w3 : IntKind.i32.wrap (48 + (m1 : Int)) = 48 + (m1 : Int) := Go.IntWalk.i32_in _ ⟨by omega, by omega⟩
 clear e1
 have s1 : (ch (48 + m1)).size = 1 := rfl
 generalize ch (48 + m1) = c1 at *
 have z1 : ¬ 9223372036854775807 < (⟨#[98]⟩ : ByteArray).size + c1.size := by rw [s1]; decide
 clear s1
 go_enter Tryz.func20, Tryz.ntmps20
 go_wp2_with fail
 exact bodyPost_ret (v := .string (⟨#[98]⟩ ++ c1)) (by simp only [results, Tryz.results20]; go_simp) rfl ⟨rfl, (by repeat' (first | exact Below.refl _ _ | assumption | apply bDrewN | apply bDrew | apply bAlloc | (refine bSet ?_ ?_ _) | (refine bStep ?_ (by assumption)) | omega | (simp <;> omega)))⟩
end Go.Proofs.YtmpilgkfbibhlaaGreatDoor
namespace Go.Proofs.YtmpilgkfbibhlaaGreatDoor
open Go
structure Sm where
 do_ : Nat
 by_ : Nat
 p : Nat
 m : Nat
 t : Nat
 n : Nat
 later : Nat
structure SmOk (x : Sm) : Prop where
 do_ : x.do_ < 256
 by_ : x.by_ < 256
 p : x.p < 256
 m : x.m < 256
 t : x.t < 256
 n : x.n < 65536
 later : x.later < 256
structure WdS where
 a : RegA
 at_ : Int
 packs : List ByteArray
 mods : List ByteArray
 bts : List ByteArray
 mds : List Int
def pickT (l : List ByteArray) (k : Nat) (d : ByteArray) : ByteArray := if l.length = 0 then d else l.getD (k % l.length) emp
def noneT : ByteArray := ⟨#[110, 111, 110, 101]⟩
def none0 : ByteArray := ⟨#[110, 111, 110, 101, 58, 48]⟩
def fireT : ByteArray := ⟨#[102, 105, 114, 101]⟩
def atW (S : WdS) (x : Sm) : Int := S.at_ + ((x.later % 4 : Nat) : Int)
def byW (x : Sm) : Nat := x.by_ % 3
def packW (S : WdS) (x : Sm) : ByteArray := pickT S.packs x.p noneT
def toW (S : WdS) (x : Sm) : ByteArray := pickT S.packs x.t noneT
def modW (S : WdS) (x : Sm) : ByteArray := pickT S.mods x.m none0
def madeW (S : WdS) (x : Sm) : Evt := (1, atW S x, 1000 + (x.n : Int), ((x.n % 5 : Nat) : Int), batchP x.t, emp)
def useW (S : WdS) (x : Sm) : Evt := (2, atW S x, (x.n : Int) * 100, (x.m : Int) * 100, emp, emp)
def testW (S : WdS) (x : Sm) : Evt := (3, atW S x, (x.n : Int), 0, emp, emp)
def faultW (S : WdS) (x : Sm) : Evt := (4, atW S x, 1 + ((x.n % 12 : Nat) : Int), 0, emp, emp)
def clearW (S : WdS) (x : Sm) : Evt := (8, atW S x, 0, 0, fireT, emp)
def scrapW (S : WdS) (x : Sm) : Evt := (9, atW S x, 0, 0, emp, emp)
def recW (S : WdS) (x : Sm) : Int × List ByteArray × RegA := recallA S.a (byW x) (atW S x) (batchP x.t) 0 (x.m : Int) fireT
def resW (S : WdS) (x : Sm) : Int × RegA :=
 if x.do_ % 11 < 3 then enterA S.a (byW x) (nameP S.packs.length) (madeW S x)
 else if x.do_ % 11 = 3 then enterA S.a (byW x) (packW S x) (useW S x)
 else if x.do_ % 11 = 4 then enterA S.a (byW x) (packW S x) (testW S x)
 else if x.do_ % 11 = 5 then enterA S.a (byW x) (packW S x) (faultW S x)
 else if x.do_ % 11 < 8 then moveA S.a (byW x) (atW S x) (modW S x) (toW S x)
 else if x.do_ % 11 = 8 then ((recW S x).1, (recW S x).2.2)
 else if x.do_ % 11 = 9 then enterA S.a (byW x) (packW S x) (clearW S x)
 else enterA S.a (byW x) (packW S x) (scrapW S x)
def okW (S : WdS) (x : Sm) : Bool := (resW S x).1 == 0
def digN (nm : ByteArray) (i : Nat) : ByteArray := nm ++ ⟨#[58]⟩ ++ ch (48 + i)
def addW (S : WdS) (x : Sm) : WdS :=
 {S with packs := S.packs ++ [nameP S.packs.length], bts := S.bts ++ [batchP x.t], mds := S.mds ++ [S.at_], mods := S.mods ++ (List.range (x.n % 5)).map (digN (nameP S.packs.length)) }
def baseW (S : WdS) (x : Sm) : WdS := { S with at_ := atW S x, a := (resW S x).2 }
def doW (S : WdS) (x : Sm) : WdS := if x.do_ % 11 < 3 ∧ (resW S x).1 = 0 then addW (baseW S x) x else baseW S x
theorem resW_ok {S : WdS} (ho : OkA S.a) (x : Sm) : OkA (resW S x).2 := by
 unfold resW
 repeat' split
 all_goals first
  | exact enterA_ok ho _ _ _
  | exact moveA_ok ho _ _ _ _
  | exact recallA_ok ho _ _ _ _ _ _
theorem doW_ok {S : WdS} (ho : OkA S.a) (x : Sm) : OkA (doW S x).a := by
 unfold doW
 split
 ·exact resW_ok ho x
 ·exact resW_ok ho x
theorem digN_mod (nm : ByteArray) {i : Nat} (hi : i < 10) : digN nm i = modN nm i := by
 unfold digN modN ch
 congr 1
 have h : ∀ i : Nat, i < 10 → (⟨#[UInt8.ofNat (48 + i)]⟩ : ByteArray) = ⟨(Lib.itoa (i : Int)).toArray⟩ := by decide +kernel
 exact h i hi
theorem nameP_list (n : Nat) : (nameP n).data.toList = [112, UInt8.ofNat (97 + n % 26), UInt8.ofNat (97 + n / 26 % 26)] := by
 unfold nameP ch
 simp [ByteArray.data_append]
theorem nameP_ok (n : Nat) : nameB (nameP n) = true := by
 have hl := nameP_list n
 have h1 : n % 26 < 26 := Nat.mod_lt _ (by decide)
 have h2 : n / 26 % 26 < 26 := Nat.mod_lt _ (by decide)
 have h3 : ∀ k : Nat, k < 26 → okc (UInt8.ofNat (97 + k)) = true := by decide +kernel
 unfold nameB
 rw [Lib.size_eq, hl]
 simp only [List.all_cons, List.all_nil, h3 _ h1, h3 _ h2, List.length_cons, List.length_nil]
 rw [Bool.and_eq_true]
 exact ⟨decide_eq_true (by omega), by decide⟩
theorem ofNat_inj {a b : Nat} (ha : a < 256) (hb : b < 256) (h : UInt8.ofNat a = UInt8.ofNat b) : a = b := by
 have := congrArg UInt8.toNat h
 simp at this
 omega
theorem nameP_inj {m n : Nat} (hm : m < 676) (hn : n < 676) (h : nameP m = nameP n) : m = n := by
 have e : (nameP m).data.toList = (nameP n).data.toList := by rw [h]
 rw [nameP_list, nameP_list] at e
 simp only [List.cons.injEq, and_true, true_and] at e
 obtain ⟨e1, e2⟩ := e
 have h1 : m % 26 < 26 := Nat.mod_lt _ (by decide)
 have h2 : m / 26 % 26 < 26 := Nat.mod_lt _ (by decide)
 have h3 : n % 26 < 26 := Nat.mod_lt _ (by decide)
 have h4 : n / 26 % 26 < 26 := Nat.mod_lt _ (by decide)
 have e1 := ofNat_inj (by omega) (by omega) e1
 have e2 := ofNat_inj (by omega) (by omega) e2
 omega
theorem batchP_ok (n : Nat) : nameB (batchP n) = true := by
 have h1 : n % 3 < 3 := Nat.mod_lt _ (by decide)
 have h3 : ∀ k : Nat, k < 3 → nameB (⟨#[98]⟩ ++ ch (48 + k)) = true := by decide +kernel
 exact h3 _ h1
theorem fire_ok : nameB fireT = true := by decide +kernel
end Go.Proofs.YtmpilgkfbibhlaaGreatDoor
namespace Go.Proofs.YtmpilgkfbibhlaaGreatDoor
open Go
def PutC (K : Evt → Prop) (I : RegA → Prop) : Prop := ∀ (a : RegA) (n i : Nat) (e : Evt) (p : ByteArray × List Ent), K e → I a → a.ps[i]? = some p → okX e = true → canP p.1 (lf p) e = true → n < a.bks.length → a.used.getD n 0 < (a.bks.getD n (0, [])).2.length → OkB a → I (putA a n i e)
section
variable {K : Evt → Prop} {I : RegA → Prop} {a : RegA} {n i : Nat} {e : Evt} {p : ByteArray × List Ent} {b t t0 t1 : Int} {nm m to bt r : ByteArray}
theorem enter_made (ho : OkA a) (b : Int) (nm : ByteArray) (e : Evt) (hk : e.1 = 1) : (∃ c, c ≠ 0 ∧ enterA a b nm e = (c, a)) ∨ ∃ n : Nat, b = (n : Int) ∧ n < a.bks.length ∧ nameB nm = true ∧ okX e = true ∧ a.ps.length ≤ findA nm a ∧ a.used.getD n 0 < (a.bks.getD n (0, [])).2.length ∧
  ({ a with ps := a.ps ++ [(nm, [])] } : RegA).ps[a.ps.length]? = some (nm, []) ∧ OkB { a with ps := a.ps ++ [(nm, [])] } ∧ canP nm (lf (nm, [])) e = true ∧ enterA a b nm e = (0, putA { a with ps := a.ps ++ [(nm, [])] } n a.ps.length e) := by
 by_cases hb : 0 ≤ b ∧ b < a.bks.length
 ·by_cases hv : nameB nm = true ∧ okX e = true ∧ e.1 ≠ 5 ∧ e.1 ≠ 6
  ·obtain ⟨n, rfl⟩ := Int.eq_ofNat_of_zero_le hb.1
   have hnb : n < a.bks.length := by omega
   rw [enterA_m hb hv hk]
   split
   ·exact Or.inl ⟨12, by decide, rfl⟩
   ·rename_i h4
    split
    ·exact Or.inl ⟨11, by decide, rfl⟩
    ·rename_i h5
     split
     ·exact Or.inl ⟨4, by decide, rfl⟩
     ·rename_i h6
      rw [Int.toNat_natCast]
      have hp : ({ a with ps := a.ps ++ [(nm, [])] } : RegA).ps[a.ps.length]? = some (nm, []) := by simp
      have hob := ho.toOkB.addP hv.1 (show a.ps.length < 100 by omega)
      have hcan : canP nm (lf (nm, [])) e = true := by show canP nm life0 e = true; unfold canP; rw [if_pos (show life0.n = 0 from rfl), hk]; rfl
      exact Or.inr ⟨n, rfl, hnb, hv.1, hv.2.1, by omega, left_use (a := a) hnb h6, hp, hob, hcan, rfl⟩
  ·exact Or.inl ⟨2, by decide, enterA_2 hb hv⟩
 ·exact Or.inl ⟨3, by decide, enterA_1 hb⟩
theorem enter_other (b : Int) (nm : ByteArray) (e : Evt) (hk : e.1 ≠ 1) : (∃ c, c ≠ 0 ∧ enterA a b nm e = (c, a)) ∨ ∃ (n : Nat) (p : ByteArray × List Ent), b = (n : Int) ∧ n < a.bks.length ∧ okX e = true ∧ a.ps[findA nm a]? = some p ∧ canP p.1 (lf p) e = true ∧ p.2.length < 500 ∧ a.used.getD n 0 < (a.bks.getD n (0, [])).2.length ∧ enterA a b nm e = (0, putA a n (findA nm a) e) := by
 by_cases hb : 0 ≤ b ∧ b < a.bks.length
 ·by_cases hv : nameB nm = true ∧ okX e = true ∧ e.1 ≠ 5 ∧ e.1 ≠ 6
  ·obtain ⟨n, rfl⟩ := Int.eq_ofNat_of_zero_le hb.1
   have hnb : n < a.bks.length := by omega
   rw [enterA_n hb hv hk]
   cases hp : a.ps[findA nm a]? with
   | none => exact Or.inl ⟨5, by decide, rfl⟩
   | some p =>
    dsimp only
    split
    ·exact Or.inl ⟨10, by decide, rfl⟩
    ·rename_i h5
     split
     ·exact Or.inl ⟨11, by decide, rfl⟩
     ·rename_i h6
      split
      ·exact Or.inl ⟨4, by decide, rfl⟩
      ·rename_i h8
       rw [Int.toNat_natCast]
       exact Or.inr ⟨n, p, rfl, hnb, hv.2.1, rfl, by simpa using h5, by omega, left_use hnb h8, rfl⟩
  ·exact Or.inl ⟨2, by decide, enterA_2 hb hv⟩
 ·exact Or.inl ⟨3, by decide, enterA_1 hb⟩
theorem move_cases (ho : OkA a) (b t : Int) (m to : ByteArray) : (∃ c, c ≠ 0 ∧ moveA a b t m to = (c, a)) ∨ ∃ (n : Nat) (p q : ByteArray × List Ent), b = (n : Int) ∧ n < a.bks.length ∧ a.ps[whereA m a]? = some p ∧ a.ps[findA to a]? = some q ∧ whereA m a ≠ findA to a ∧
  okX (takeE t m to) = true ∧ canP p.1 (lf p) (takeE t m to) = true ∧ okX (bringE t m p.1) = true ∧ canP q.1 (lf q) (bringE t m p.1) = true ∧ a.used.getD n 0 < (a.bks.getD n (0, [])).2.length ∧ OkB (putA a n (whereA m a) (takeE t m to)) ∧ (putA a n (whereA m a) (takeE t m to)).ps[findA to a]? = some q ∧
  (putA a n (whereA m a) (takeE t m to)).used.getD n 0 < ((putA a n (whereA m a) (takeE t m to)).bks.getD n (0, [])).2.length ∧ moveA a b t m to = (0, putA (putA a n (whereA m a) (takeE t m to)) n (findA to a) (bringE t m p.1)) := by
 by_cases hb : 0 ≤ b ∧ b < a.bks.length
 ·by_cases hv : modB m = true ∧ nameB to = true ∧ timeB t = true
  ·obtain ⟨n, rfl⟩ := Int.eq_ofNat_of_zero_le hb.1
   have hnb : n < a.bks.length := by omega
   cases hp : a.ps[whereA m a]? with
   | none => exact Or.inl ⟨5, by decide, moveA_3 hb hv (Or.inl hp)⟩
   | some p =>
    cases hq : a.ps[findA to a]? with
    | none => exact Or.inl ⟨5, by decide, moveA_3 hb hv (Or.inr hq)⟩
    | some q =>
     rw [moveA_4 hb hv hp hq]
     split
     ·exact Or.inl ⟨10, by decide, rfl⟩
     ·rename_i h6
      split
      ·exact Or.inl ⟨11, by decide, rfl⟩
      ·rename_i h9
       split
       ·exact Or.inl ⟨4, by decide, rfl⟩
       ·rename_i h10
        rw [Int.toNat_natCast]
        simp only [not_or, Bool.not_eq_false] at h6
        obtain ⟨h6, h7, h8⟩ := h6
        have hus := leftA_at hnb
        have o1 : OkB (putA a n (whereA m a) (takeE t m to)) := ho.toOkB.put hp (take_ok hv) h7 (by omega) (by omega)
        have hq1 : (putA a n (whereA m a) (takeE t m to)).ps[findA to a]? = some q := by rw [putA_ne (fun c => h6 c.symm)]; exact hq
        exact Or.inr ⟨n, p, q, rfl, hnb, rfl, rfl, h6, take_ok hv, h7, bring_ok hv.1 (ho.p p (List.mem_of_getElem? hp)).2.2.2 hv.2.2, h8, by omega, o1, hq1, by rw [putA_bks.1, putA_used hp, getD_set]; split <;> omega, rfl⟩
  ·exact Or.inl ⟨2, by decide, moveA_2 hb hv⟩
 ·exact Or.inl ⟨3, by decide, moveA_1 hb⟩
theorem recall_cases (ho : OkA a) (b t : Int) (bt : ByteArray) (t0 t1 : Int) (r : ByteArray) : (∃ c, c ≠ 0 ∧ recallA a b t bt t0 t1 r = (c, [], a)) ∨ ∃ n : Nat, b = (n : Int) ∧ RecC a (affA a bt t0 t1 r) n t r ∧ recallA a b t bt t0 t1 r = (0, (affA a bt t0 t1 r).map (nameA a), recsA t r n (affA a bt t0 t1 r) a) := by
 by_cases hb : 0 ≤ b ∧ b < a.bks.length
 ·by_cases hv : nameB bt = true ∧ nameB r = true ∧ timeB t = true ∧ timeB t0 = true ∧ timeB t1 = true
  ·obtain ⟨n, rfl⟩ := Int.eq_ofNat_of_zero_le hb.1
   rw [recallA_3 hb hv]
   split
   ·exact Or.inl ⟨10, by decide, rfl⟩
   ·rename_i h1
    split
    ·exact Or.inl ⟨11, by decide, rfl⟩
    ·rename_i h2
     split
     ·exact Or.inl ⟨4, by decide, rfl⟩
     ·rename_i h3
      rw [Int.toNat_natCast]
      exact Or.inr ⟨n, rfl, recC_of ho (show n < a.bks.length by omega) hv (by simpa using h1) (by simpa using h2) h3, rfl⟩
  ·exact Or.inl ⟨2, by decide, recallA_2 hb hv⟩
 ·exact Or.inl ⟨3, by decide, recallA_1 hb⟩
theorem enterA_keep (hI : PutC K I) (ho : OkA a) (h : I a) (b : Int) (nm : ByteArray) (e : Evt) (hK : K e) (hk : e.1 ≠ 1) : I (enterA a b nm e).2 := by
 rcases enter_other (a := a) b nm e hk with ⟨c, -, q⟩ | ⟨n, p, -, h1, h2, h3, h4, -, h6, q⟩
 ·rw [q]; exact h
 ·rw [q]; exact hI a n _ e p hK h h3 h2 h4 h1 h6 ho.toOkB
theorem moveA_keep (hI : PutC K I) (ho : OkA a) (h : I a) (b t : Int) (m to : ByteArray) (hK : K (takeE t m to)) (hK2 : ∀ nm, K (bringE t m nm)) : I (moveA a b t m to).2 := by
 rcases move_cases ho b t m to with ⟨c, -, q⟩ | ⟨n, p, x, -, h1, h2, h3, h4, h5, h6, h7, h8, h9, h10, h11, h12, q⟩
 ·rw [q]; exact h
 ·rw [q]; exact hI _ n _ _ x (hK2 _) (hI a n _ _ p hK h h2 h5 h6 h1 h9 ho.toOkB) h11 h7 h8 (by rw [putA_bks.1]; exact h1) h12 h10
theorem recs_keep (hI : PutC K I) (ho : OkA a) (h : I a) {L : List Nat} (hc : RecC a L n t r) (hK : K (recE t r)) : ∀ j, j ≤ L.length → I (recsA t r n (L.take j) a) ∧ RecI a (recsA t r n (L.take j) a) L n j := by
 intro j
 induction j with
 | zero => exact fun _ => ⟨h, RecI.start ho.toOkB L n⟩
 | succ j ih =>
  intro hj
  obtain ⟨o1, i1⟩ := ih (by omega)
  obtain ⟨i, hi⟩ : ∃ i, L[j]? = some i := ⟨L[j], List.getElem?_eq_getElem (by omega)⟩
  obtain ⟨⟨p, hp, hp0⟩, hb, hu, i2⟩ := i1.next hc hi
  rw [recs_step hi]
  obtain ⟨p9, hp9, hcan, hl⟩ := hc.p i (List.mem_of_getElem? hi)
  rw [hp0] at hp9
  obtain rfl := Option.some.inj hp9
  exact ⟨hI _ n i _ p hK o1 hp hc.ok hcan hb hu i1.ok, i2⟩
theorem recallA_keep (hI : PutC K I) (ho : OkA a) (h : I a) (b t : Int) (bt : ByteArray) (t0 t1 : Int) (r : ByteArray) (hK : K (recE t r)) : I (recallA a b t bt t0 t1 r).2.2 := by
 rcases recall_cases ho b t bt t0 t1 r with ⟨c, -, q⟩ | ⟨n, -, hc, q⟩
 ·rw [q]; exact h
 ·rw [q]
  have := (recs_keep hI ho h hc hK _ (Nat.le_refl _)).1
  rw [List.take_length] at this
  exact this
theorem resW_keep {S : WdS} (hI : PutC K I) (ho : OkA S.a) (h : I S.a) (x : Sm) (hK : ∀ e : Evt, e.2.1 = atW S x → (e.1 = 7 ∨ e.1 = 8 → e.2.2.2.2.1 = fireT) → (e.1 = 1 → e = madeW S x ∧ x.do_ % 11 < 3) → (e.1 = 5 ∨ e.1 = 6 → 6 ≤ x.do_ % 11 ∧ x.do_ % 11 < 8) → K e) (hn : x.do_ % 11 < 3 → S.a.ps.length ≤ findA (nameP S.packs.length) S.a → I { S.a with ps := S.a.ps ++ [(nameP S.packs.length, [])] }) : I (resW S x).2 := by
 unfold resW
 have k0 : ∀ e : Evt, e.2.1 = atW S x → (e.1 ≠ 7 ∧ e.1 ≠ 8 ∧ e.1 ≠ 1 ∧ e.1 ≠ 5 ∧ e.1 ≠ 6) → K e := fun e h1 h2 => hK e h1 (fun q => by omega) (fun q => absurd q h2.2.2.1) (fun q => by omega)
 split
 ·rename_i h3
  rcases enter_made ho (byW x) (nameP S.packs.length) (madeW S x) rfl with ⟨c, -, q⟩ | ⟨n, -, h1, h2, h4, h5, h6, h7, h8, h9, q⟩
  ·rw [q]; exact h
  ·rw [q]; exact hI _ n _ _ _ (hK _ rfl (fun q => by have : (1 : Int) = 7 ∨ (1 : Int) = 8 := q; omega) (fun _ => ⟨rfl, h3⟩) (fun q => by have : (1 : Int) = 5 ∨ (1 : Int) = 6 := q; omega)) (hn h3 h5) h7 h4 h9 h1 h6 h8
 ·split
  ·exact enterA_keep hI ho h _ _ _ (k0 _ rfl (by show (2 : Int) ≠ 7 ∧ (2 : Int) ≠ 8 ∧ (2 : Int) ≠ 1 ∧ (2 : Int) ≠ 5 ∧ (2 : Int) ≠ 6; decide)) (show (2 : Int) ≠ 1 by decide)
  ·split
   ·exact enterA_keep hI ho h _ _ _ (k0 _ rfl (by show (3 : Int) ≠ 7 ∧ (3 : Int) ≠ 8 ∧ (3 : Int) ≠ 1 ∧ (3 : Int) ≠ 5 ∧ (3 : Int) ≠ 6; decide)) (show (3 : Int) ≠ 1 by decide)
   ·split
    ·exact enterA_keep hI ho h _ _ _ (k0 _ rfl (by show (4 : Int) ≠ 7 ∧ (4 : Int) ≠ 8 ∧ (4 : Int) ≠ 1 ∧ (4 : Int) ≠ 5 ∧ (4 : Int) ≠ 6; decide)) (show (4 : Int) ≠ 1 by decide)
    ·split
     ·rename_i h8
      have k5 : ∀ k : Int, ∀ u v : ByteArray, (k = 5 ∨ k = 6) → K (k, atW S x, 0, 0, u, v) := fun k u v hk => hK _ rfl (fun q => by have : k = 7 ∨ k = 8 := q; omega) (fun q => by have : k = 1 := q; omega) (fun _ => by omega)
      exact moveA_keep hI ho h _ _ _ _ (k5 6 _ _ (Or.inr rfl)) (fun nm => k5 5 _ _ (Or.inl rfl))
     ·split
      ·exact recallA_keep hI ho h _ _ _ _ _ _ (hK _ rfl (fun _ => rfl) (fun q => by have : (7 : Int) = 1 := q; omega) (fun q => by have : (7 : Int) = 5 ∨ (7 : Int) = 6 := q; omega))
      ·split
       ·exact enterA_keep hI ho h _ _ _ (hK _ rfl (fun _ => rfl) (fun q => by have : (8 : Int) = 1 := q; omega) (fun q => by have : (8 : Int) = 5 ∨ (8 : Int) = 6 := q; omega)) (show (8 : Int) ≠ 1 by decide)
       ·exact enterA_keep hI ho h _ _ _ (k0 _ rfl (by show (9 : Int) ≠ 7 ∧ (9 : Int) ≠ 8 ∧ (9 : Int) ≠ 1 ∧ (9 : Int) ≠ 5 ∧ (9 : Int) ≠ 6; decide)) (show (9 : Int) ≠ 1 by decide)
theorem put_nm : (putA a n i e).ps.map (·.1) = a.ps.map (·.1) := by
 unfold putA
 cases hp : a.ps[i]? with
 | none => rfl
 | some p =>
  refine List.ext_getElem? fun k => ?_
  show ((a.ps.set i (putP a n e p)).map (·.1))[k]? = _
  rw [List.getElem?_map, List.getElem?_map]
  by_cases c : i = k
  ·subst c
   rw [List.getElem?_set_self (List.getElem?_eq_some_iff.1 hp).1, hp]
   rfl
  ·rw [List.getElem?_set_ne c]
end
theorem flat_set {α β : Type} (f : α → List β) : ∀ (l : List α) (i : Nat) (p q : α) (z : List β), l[i]? = some p → (f q).Perm (z ++ f p) → ((l.set i q).flatMap f).Perm (z ++ l.flatMap f)
 | [], _, _, _, _, h, _ => by cases h
 | x :: l, 0, p, q, z, h, hq => by
  obtain rfl : x = p := by simpa using h
  show (f q ++ l.flatMap f).Perm (z ++ (f x ++ l.flatMap f))
  rw [← List.append_assoc]
  exact hq.append_right _
 | x :: l, i + 1, p, q, z, h, hq => by
  have ih := flat_set f l i p q z (by simpa using h) hq
  show (f x ++ (l.set i q).flatMap f).Perm (z ++ (f x ++ l.flatMap f))
  refine (ih.append_left (f x)).trans ?_
  rw [← List.append_assoc, ← List.append_assoc]
  exact (List.perm_append_comm).append_right _
def allE (a : RegA) : List Ent := a.ps.flatMap fun p => p.2
def prE (y : Ent) : Int × Int := (y.2.1, y.2.2.1)
def newE (a : RegA) (n : Nat) (e : Evt) (p : ByteArray × List Ent) : Ent := nextE a.pt a.bks (headOf a.pt p.1 p.2) e n (a.used.getD n 0)
theorem allE_put {a : RegA} {n i : Nat} {e : Evt} {p : ByteArray × List Ent} (hp : a.ps[i]? = some p) : (allE (putA a n i e)).Perm (newE a n e p :: allE a) := by
 rw [putA_at hp]
 exact flat_set (fun p : ByteArray × List Ent => p.2) a.ps i p (putP a n e p) [newE a n e p] hp List.perm_append_comm
theorem allE_new {a : RegA} (nm : ByteArray) : allE { a with ps := a.ps ++ [(nm, [])] } = allE a := by
 unfold allE
 show (a.ps ++ [(nm, [])]).flatMap (fun p : ByteArray × List Ent => p.2) = _
 rw [List.flatMap_append]
 simp
structure PadI (a : RegA) : Prop where
 b3 : a.bks.length = 3
 u8 : a.used.length = 8
 nd : ((allE a).map prE).Nodup
 rg : ∀ y ∈ allE a, ∃ n k : Nat, y.2.1 = (n : Int) ∧ y.2.2.1 = (k : Int) ∧ n < 3 ∧ k < a.used.getD n 0
 ct : (allE a).length = a.used.getD 0 0 + a.used.getD 1 0 + a.used.getD 2 0
theorem PadI.put : PutC (fun _ => True) PadI := by
 intro a n i e p _ h hp hok hcan hn hu ho
 have hP := allE_put (n := n) (e := e) hp
 have hu8 := h.u8
 have hb3 := h.b3
 have hn3 : n < 3 := by omega
 have hx1 : (newE a n e p).2.1 = (n : Int) := rfl
 have hx2 : (newE a n e p).2.2.1 = ((a.used.getD n 0 : Nat) : Int) := rfl
 have hus : ∀ k, (putA a n i e).used.getD k 0 = if n = k then a.used.getD n 0 + 1 else a.used.getD k 0 := fun k => by
  rw [putA_used hp, getD_set]
  by_cases c : n = k
  ·rw [if_pos ⟨c, by omega⟩, if_pos c]
  ·rw [if_neg (fun q => c q.1), if_neg c]
 refine ⟨by rw [putA_bks.1]; exact hb3, by rw [putA_used hp, List.length_set]; exact hu8, ?_, fun y hy => ?_, ?_⟩
 ·refine (hP.map prE).nodup_iff.2 ?_
  rw [List.map_cons]
  refine List.nodup_cons.2 ⟨fun c => ?_, h.nd⟩
  obtain ⟨y, hy, he⟩ := List.mem_map.1 c
  obtain ⟨n', k', e1, e2, e3, e4⟩ := h.rg y hy
  have q1 : y.2.1 = (n : Int) := congrArg Prod.fst he
  have q2 : y.2.2.1 = ((a.used.getD n 0 : Nat) : Int) := congrArg Prod.snd he
  have : n' = n := by omega
  subst this
  omega
 ·rcases List.mem_cons.1 (hP.mem_iff.1 hy) with rfl | hy
  ·exact ⟨n, a.used.getD n 0, hx1, hx2, hn3, by rw [hus, if_pos rfl]; omega⟩
  ·obtain ⟨n', k', e1, e2, e3, e4⟩ := h.rg y hy
   refine ⟨n', k', e1, e2, e3, ?_⟩
   rw [hus]
   split
   ·rename_i c; subst c; omega
   ·exact e4
 ·have hl := hP.length_eq
  rw [List.length_cons] at hl
  have h0 := hus 0
  have h1 := hus 1
  have h2 := hus 2
  have hct := h.ct
  have : n = 0 ∨ n = 1 ∨ n = 2 := by omega
  rcases this with rfl | rfl | rfl
  ·rw [if_pos rfl] at h0; rw [if_neg (by decide)] at h1 h2; omega
  ·rw [if_pos rfl] at h1; rw [if_neg (by decide)] at h0 h2; omega
  ·rw [if_pos rfl] at h2; rw [if_neg (by decide)] at h0 h1; omega
theorem PadI.addP {a : RegA} (h : PadI a) (nm : ByteArray) : PadI { a with ps := a.ps ++ [(nm, [])] } := by
 have e := allE_new (a := a) nm
 exact ⟨h.b3, h.u8, by rw [e]; exact h.nd, fun y hy => h.rg y (by rw [e] at hy; exact hy), by rw [e]; exact h.ct⟩
theorem PadI.zero {pt : Nat} {bks : List Bk} (hb : bks.length = 3) : PadI (newA pt bks) := by
 refine ⟨hb, rfl, List.nodup_nil, fun y hy => ?_, rfl⟩
 cases hy
theorem PadI.res {S : WdS} (ho : OkA S.a) (h : PadI S.a) (x : Sm) : PadI (resW S x).2 := resW_keep PadI.put ho h x (fun _ _ _ _ _ => trivial) fun _ _ => h.addP _
theorem PadI.do_ {S : WdS} (ho : OkA S.a) (h : PadI S.a) (x : Sm) : PadI (doW S x).a := by
 unfold doW
 split
 ·exact h.res ho x
 ·exact h.res ho x
end Go.Proofs.YtmpilgkfbibhlaaGreatDoor
