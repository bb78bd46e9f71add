/-
 PassportRecalls: what its walk leans on.
-/
import Derived.Test.YtmpilgkfbibhlaaGreatDoorG37R
import Derived.Test.YtmpilgkfbibhlaaGreatDoorG35R
import Derived.Test.YtmpilgkfbibhlaaGreatDoorG0R
import Derived.Test.YtmpilgkfbibhlaaGreatDoorG36R
import Derived.Deep.Cut
import Derived.Deep.CutRange
set_option linter.unusedSimpArgs false
set_option linter.unusedVariables false
namespace Go.Proofs.YtmpilgkfbibhlaaGreatDoor
open Sx Go.RowKit Mr
theorem rec_okW {S : WdS} {i b u : Nat} (ho : OkW S i) (hc : recallA S.a 0 S.at_ (batchP b) 0 (u : Int) fireT = (0, (affL S b u).map (nameA S.a), recL S b u)) : OkW { S with a := recL S b u } i := by
 have h1 : OkA (recL S b u) := by
  have := recallA_ok ho.ok 0 S.at_ (batchP b) 0 (u : Int) fireT
  rw [hc] at this
  exact this
 have h2 : (recL S b u).ps.map (·.1) = S.packs := by
  have hC : PutC (fun _ => True) (fun a => a.ps.map (·.1) = S.packs) := fun a n i e p _ h _ _ _ _ _ _ => by show (putA a n i e).ps.map (fun x => x.1) = _; rw [put_nm]; exact h
  have := recallA_keep hC ho.ok ho.pk 0 S.at_ (batchP b) 0 (u : Int) fireT trivial
  rw [hc] at this
  exact this
 exact ⟨h1, h2, ho.nm, ho.np, ho.at_, ho.ml, ho.md, ho.bl, ho.tl⟩
structure RnV (P C0 : World → Prop) (A : Value → World → Prop) (vb : Value) (C : Value → Value) (b0 b1 b2 b3 b4 : Bool) (v0 v1 v2 v3 v4 : Value) (W : World) : Prop where
 p : P W
 a : b1 = false → C0 W
 y : b0 = true → v0 = vb
 x : ∃ v', (b1 = true → v1 = C v' ∧ A v' W) ∧ (b2 = true → v2 = C v') ∧ (b3 = true → v3 = v') ∧ (b4 = true → v4 = v')
 n0 : b0 = false → b1 = false
 n1 : b1 = false → b2 = false
 n2 : b2 = false → b3 = false
 n3 : b3 = false → b4 = false
section
variable {P C0 : World → Prop} {A : Value → World → Prop} {vb : Value} {C : Value → Value} {b0 b1 b2 b3 b4 : Bool} {v0 v1 v2 v3 v4 v' : Value} {W w2 : World}
theorem RnV.start (h : P W) (h0 : C0 W) : RnV P C0 A vb C false false false false false v0 v1 v2 v3 v4 W := ⟨h, (fun _ => h0), (fun e => by cases e), ⟨.bool false, (fun e => by cases e), (fun e => by cases e), (fun e => by cases e), (fun e => by cases e)⟩, fun _ => rfl, fun _ => rfl, fun _ => rfl, fun _ => rfl⟩
theorem RnV.mk0 (h : RnV P C0 A vb C false b1 b2 b3 b4 v0 v1 v2 v3 v4 W) (hp : P w2) (h0 : C0 w2) : RnV P C0 A vb C true b1 b2 b3 b4 vb v1 v2 v3 v4 w2 := by
 have h1 := h.n0 rfl
 subst h1
 have h2 := h.n1 rfl
 subst h2
 have h3 := h.n2 rfl
 subst h3
 have h4 := h.n3 rfl
 subst h4
 exact ⟨hp, (fun _ => h0), (fun _ => rfl), ⟨.bool false, (fun e => by cases e), (fun e => by cases e), (fun e => by cases e), (fun e => by cases e)⟩, (fun e => by cases e), fun _ => rfl, fun _ => rfl, fun _ => rfl⟩
theorem RnV.mk1 (h : RnV P C0 A vb C true false b2 b3 b4 v0 v1 v2 v3 v4 W) (hp : P w2) (ha : A v' w2) : RnV P C0 A vb C true true b2 b3 b4 v0 (C v') v2 v3 v4 w2 := by
 have h2 := h.n1 rfl
 subst h2
 have h3 := h.n2 rfl
 subst h3
 have h4 := h.n3 rfl
 subst h4
 exact ⟨hp, (fun e => by cases e), h.y, ⟨v', (fun _ => ⟨rfl, ha⟩), (fun e => by cases e), (fun e => by cases e), (fun e => by cases e)⟩, (fun e => by cases e), (fun e => by cases e), fun _ => rfl, fun _ => rfl⟩
theorem RnV.val1 (h : RnV P C0 A vb C b0 true b2 b3 b4 v0 v1 v2 v3 v4 W) : ∃ v', v1 = C v' := by
 obtain ⟨v', h1, -⟩ := h.x
 exact ⟨v', (h1 rfl).1⟩
theorem RnV.val2 (h : RnV P C0 A vb C b0 b1 true b3 b4 v0 v1 v2 v3 v4 W) : ∃ v', v2 = C v' := by
 obtain ⟨v', -, h1, -⟩ := h.x
 exact ⟨v', h1 rfl⟩
theorem RnV.mk2 (h : RnV P C0 A vb C b0 true false b3 b4 v0 v1 v2 v3 v4 W) : RnV P C0 A vb C b0 true true b3 b4 v0 v1 v1 v3 v4 W := by
 obtain ⟨v', h1, h2, h3, h4⟩ := h.x
 exact ⟨h.p, h.a, h.y, ⟨v', h1, (fun _ => (h1 rfl).1), h3, h4⟩, h.n0, (fun e => by cases e), (fun e => by cases e), h.n3⟩
theorem RnV.mk3 (hC : ∀ x y, C x = C y → x = y) (h : RnV P C0 A vb C b0 b1 true false b4 v0 v1 (C v2) v3 v4 W) : RnV P C0 A vb C b0 b1 true true b4 v0 v1 (C v2) v2 v4 W := by
 obtain ⟨v', h1, h2, h3, h4⟩ := h.x
 obtain rfl := hC _ _ (h2 rfl)
 exact ⟨h.p, h.a, h.y, ⟨_, h1, h2, (fun _ => rfl), h4⟩, h.n0, h.n1, (fun e => by cases e), (fun e => by cases e)⟩
theorem RnV.mk4 (h : RnV P C0 A vb C b0 b1 b2 true false v0 v1 v2 v3 v4 W) : RnV P C0 A vb C b0 b1 b2 true true v0 v1 v2 v3 v3 W := by
 obtain ⟨v', h1, h2, h3, h4⟩ := h.x
 exact ⟨h.p, h.a, h.y, ⟨v', h1, h2, h3, h3⟩, h.n0, h.n1, h.n2, (fun e => by cases e)⟩
theorem RnV.fin (h : RnV P C0 A vb C true true true true true v0 v1 v2 v3 v4 W) : v0 = vb ∧ v1 = C v4 ∧ v2 = C v4 ∧ v3 = v4 ∧ A v4 W := by
 obtain ⟨v', h1, h2, h3, h4⟩ := h.x
 obtain rfl := h4 rfl
 exact ⟨h.y rfl, (h1 rfl).1, h2 rfl, h3 rfl, (h1 rfl).2⟩
end
theorem infoBo : (Tryz.prog.info? 4).map (fun i => (i.zero, i.size, i.bytes)) = some (some (.bool false), 1, 1) := by kernel_rfl
theorem boo1 (t : Bool) : ∀ u ∈ [Value.bool t], u.oneCell' = true := by
 intro u hu
 rw [List.mem_singleton.1 hu]; rfl
def befC (S : WdS) (k : Nat) : List Value := (S.a.ps.take k).map fun p => .bool (fireP (evsOf p.2))
theorem befC_snoc {S : WdS} {k : Nat} {p : ByteArray × List Ent} (h : S.a.ps[k]? = some p) : befC S (k + 1) = befC S k ++ [.bool (fireP (evsOf p.2))] := by
 unfold befC
 rw [take_snoc h, List.map_append]
 rfl
theorem befC_at {S : WdS} {k n : Nat} {p : ByteArray × List Ent} (h : S.a.ps[k]? = some p) (hk : k < n) : (befC S n)[k]? = some (.bool (fireP (evsOf p.2))) := by
 unfold befC
 rw [List.getElem?_map, List.getElem?_take_of_lt hk, h]
 rfl
def nmC (S : WdS) (b u : Nat) : List Value := ((affL S b u).map (nameA S.a)).map Value.string
theorem nmC_at {S : WdS} {b u j : Nat} {q : ByteArray} (h : ((affL S b u).map (nameA S.a))[j]? = some q) : (nmC S b u)[j]? = some (.string q) := by
 unfold nmC
 rw [List.getElem?_map, h]
 rfl
theorem WdAt.recd {w0 W w2 : World} {Wd R B n : Nat} {vb vk v : Value} {bks : List Bk} {S : WdS} {g : RegS} {vp vpk vmd vbt vmk : Value} {a' : RegA} {xs : List Value} (h : WdAt w0 Wd R vb vk bks S g vp vpk vmd vbt vmk W) (hN : RegN w0.heap.size R vb a' g vp W w2) (hb : W.ownsRow B 4 1 v n xs) : WdE w0 Wd R vb vk bks { S with a := a' } w2 ∧ w2.ownsRow B 4 1 v n xs := by
 refine ⟨h.moved hN, ?_⟩
 obtain ⟨g', vp', h1, h2⟩ := hN
 exact own_keptT hb (h2.keepT h.v.ra) (by decide) (by decide) (by decide)
theorem nameP_size (n : Nat) : (nameP n).size = 3 := by rw [Lib.size_eq, nameP_list]; rfl
theorem digN_size (n j : Nat) : (digN (nameP n) j).size = 5 := by
 unfold digN
 rw [ba_size1, ba_size1, nameP_size]
 rfl
theorem digN_list (n j : Nat) : (digN (nameP n) j).data.toList = [112, UInt8.ofNat (97 + n % 26), UInt8.ofNat (97 + n / 26 % 26), 58, UInt8.ofNat (48 + j)] := by
 unfold digN ch
 simp only [ByteArray.data_append, Array.toList_append, nameP_list]
 rfl
theorem digN_pre (n j : Nat) : (digN (nameP n) j).extract 0 3 = nameP n := by
 apply ba_inj
 rw [ByteArray.data_extract, Array.toList_extract, digN_list, nameP_list]
 rfl
theorem digN_cut (n j : Nat) (W : World) : (Instr.slice 9 (.string (digN (nameP n) j)) none (some (.int .i64 3)) none).run Tryz.prog W = .ok (.string (nameP n)) W := by
 rw [run_slice_string_h W 9 _ Tryz.underlying9 .i64 3 (by decide) (by rw [digN_size]; decide)]
 show _ = _
 rw [show (3 : Int).toNat = 3 from rfl, digN_pre]
theorem digN_col (n j : Nat) (W : World) : (Instr.index 9 (.string (digN (nameP n) j)) (.int .i64 3)).run Tryz.prog W = .ok (.int .u8 58) W := by
 rw [run_index_string W 9 _ .i64 3 Tryz.underlying9]
 have hs := digN_size n j
 rw [dif_pos ⟨by decide, by rw [hs]; decide⟩]
 have h : (digN (nameP n) j)[(3 : Int).toNat]'(by rw [hs]; decide) = 58 := by
  have h2 : (digN (nameP n) j).data.toList[3]? = some 58 := by rw [digN_list]; rfl
  have h3 : (digN (nameP n) j).data[3]? = some 58 := by rw [← Array.getElem?_toList]; exact h2
  exact (Array.getElem?_eq_some_iff.1 h3).2
 rw [h]
 rfl
theorem name_eq {m n : Nat} (hm : m < 676) (hn : n < 676) : ((nameP m).toList == (nameP n).toList) = decide (m = n) := by
 by_cases c : m = n
 ·subst c
  rw [decide_eq_true rfl]
  exact beq_self_eq_true _
 ·rw [decide_eq_false c]
  refine beq_eq_false_iff_ne.2 fun e => c (nameP_inj hm hn ?_)
  exact eqT_iff.1 (show eqT (nameP m) (nameP n) = true by unfold eqT; rw [e]; exact beq_self_eq_true _)
end Go.Proofs.YtmpilgkfbibhlaaGreatDoor
namespace Go.Proofs.YtmpilgkfbibhlaaGreatDoor
open Sx Go.RowKit Mr
set_option maxHeartbeats 8000000 in
set_option maxRecDepth 20000 in
theorem do_made {w0 w : World} {Wd R : Nat} {vb vk : Value} {bks : List Bk} {S : WdS} (h : WdE w0 Wd R vb vk bks S w) (ho : OkA S.a) (hG : Glob0 w0) (x : Sm) (hx : SmOk x) (ha : 0 ≤ S.at_ ∧ S.at_ ≤ 1000000) (hl : S.packs.length ≤ 1000 ∧ S.mods.length ≤ 10000) (hl2 : S.bts.length ≤ 1000 ∧ S.mds.length ≤ 1000) (hsz : (packW S x).size ≤ 1000000 ∧ (toW S x).size ≤ 1000000 ∧ (modW S x).size ≤ 1000000) (hK9 : x.do_ % 11 < 3) :
  Calls Tryz.prog 15 #[.pointer (some ⟨Wd, 0, none⟩), .agg #[.int .u8 (x.do_ : Int), .int .u8 (x.by_ : Int), .int .u8 (x.p : Int), .int .u8 (x.m : Int), .int .u8 (x.t : Int), .int .u16 (x.n : Int), .int .u8 (x.later : Int)]] w fun en w' => en = .returned (.bool (okW S x)) ∧ WdE w0 Wd R vb vk bks (doW S x) w' := by
 obtain ⟨g, vp, vpk, vmd, vbt, vmk, h⟩ := h
 have HK9 := Lib.hid hK9
 clear hK9
 have HO := Lib.hid ho
 have HG := Lib.hid hG
 have HX := Lib.hid hx
 have hlt : x.later < 256 := hx.later
 have hD0 : Hid (DoS w0 Wd R vb vk bks S g vp vpk vmd vbt vmk w.heap.size x (w.alloc (.cells #[.int .u8 (x.do_ : Int), .int .u8 (x.by_ : Int), .int .u8 (x.p : Int), .int .u8 (x.m : Int), .int .u8 (x.t : Int), .int .u16 (x.n : Int), .int .u8 (x.later : Int)] 43))) := ⟨h.step bAl, blk_new w _⟩
 have hq : Int.tmod (x.later : Int) 4 = ((x.later % 4 : Nat) : Int) := by rw [Int.tmod_eq_emod_of_nonneg (by omega)]; rfl
 have hq4 : x.later % 4 < 4 := Nat.mod_lt _ (by decide)
 have hw1 : IntKind.i64.wrap ((x.later % 4 : Nat) : Int) = ((x.later % 4 : Nat) : Int) := Go.IntWalk.i64_in _ ⟨by omega, by omega⟩
 have hw2 : IntKind.i64.wrap (S.at_ + ((x.later % 4 : Nat) : Int)) = S.at_ + ((x.later % 4 : Nat) : Int) := Go.IntWalk.i64_in _ ⟨by omega, by omega⟩
 have hw3 : IntKind.i64.wrap (x.later : Int) = (x.later : Int) := Go.IntWalk.i64_in _ ⟨by omega, by omega⟩
 have HAT : Hid (atW S x = S.at_ + ((x.later % 4 : Nat) : Int)) := rfl
 have HA := Lib.hid ha
 have HL := Lib.hid hl
 have HL3 : Hid (S.bts.length ≤ 1000 ∧ S.mds.length ≤ 1000 ∧ S.mods.length ≤ 10000) := ⟨hl2.1, hl2.2, hl.2⟩
 have HPK : Hid ((packW S x).size ≤ 1000000) := hsz.1
 have HTO := Lib.hid hsz.2.1
 have HMD := Lib.hid hsz.2.2
 clear h ho hG hx ha hl hl2 hsz
 go_enter Tryz.func15, Tryz.ntmps15
 go_upto_region 1 with fail
 generalize w.alloc (.cells #[.int .u8 (x.do_ : Int), .int .u8 (x.by_ : Int), .int .u8 (x.p : Int), .int .u8 (x.m : Int), .int .u8 (x.t : Int), .int .u16 (x.n : Int), .int .u8 (x.later : Int)] 43) = W0 at *
 generalize w.heap.size = X at *
 generalize x.later % 4 = l4 at *
 refine region_all 13 13 262 [(4, 18), (12, 263)] [(none, []), (none, []), (none, []), (none, []), (some 0, []), (none, []), (none, []), (none, []), (none, []), (none, [0]), (none, []), (none, []), (some 1, [0])] [(14, (.pointer (some ⟨Wd, 0, none⟩))), (15, (.pointer (some ⟨Wd, 0, none⟩))), (16, (.pointer (some ⟨Wd, 0, none⟩))), (17, (.pointer (some ⟨Wd, 2, none⟩))), (19, (.pointer (some ⟨X, 6, none⟩))), (20, (.int .u8 (x.later : Int))), (21, (.int .i64 (x.later : Int))), (22, (.int .i64 (l4 : Int))), (23, (.int .i64 (S.at_ + (l4 : Int)))), (24, (.pointer (some ⟨Wd, 0, none⟩))), (25, (.pointer (some ⟨Wd, 2, none⟩)))] (fun bsE vsE W => AtS (fun W => W.heap[X]? = some (.cells (smC x).toArray 43 (0, 0))) (fun W => DoS w0 Wd R vb vk bks S g vp vpk vmd vbt vmk X x W) (fun W => DoS w0 Wd R vb vk bks { S with at_ := atW S x } g vp vpk vmd vbt vmk X x W) (.int .i64 S.at_) (bsE.getD 0 false) (bsE.getD 1 false) ((vsE.getD 0 undef)) W) (by kernel_rfl) (by kernel_rfl) rfl rfl (by kernel_rfl) (by rfl) ?h0 ?each ?done
 case h0 =>
  intro vsE hlv
  obtain ⟨v0, v1, rfl⟩ := ll2 hlv
  exact ⟨(hD0.out.step (Below.refl _ _).drew).b, (fun _ => hD0.out.step (Below.refl _ _).drew), (fun e => by cases e), (fun e => by cases e), (fun _ => rfl)⟩
 case each =>
  simp only [AllE]
  refine ⟨⟨14, (.pointer (some ⟨Wd, 0, none⟩)), rfl, by kernel_rfl, ?_⟩, ⟨15, (.pointer (some ⟨Wd, 0, none⟩)), rfl, by kernel_rfl, ?_⟩, ⟨16, (.pointer (some ⟨Wd, 0, none⟩)), rfl, by kernel_rfl, ?_⟩, ⟨17, (.pointer (some ⟨Wd, 2, none⟩)), rfl, by kernel_rfl, ?_⟩, Or.inl ⟨18, rfl, ?q7_4⟩, ⟨19, (.pointer (some ⟨X, 6, none⟩)), rfl, by kernel_rfl, ?_⟩, ⟨20, (.int .u8 (x.later : Int)), rfl, by kernel_rfl, ?_⟩, ⟨21, (.int .i64 (x.later : Int)), rfl, by kernel_rfl, ?_⟩, ⟨22, (.int .i64 (l4 : Int)), rfl, by kernel_rfl, ?_⟩, ⟨23, (.int .i64 (S.at_ + (l4 : Int))), rfl, by kernel_rfl, ?q7_9⟩, ⟨24, (.pointer (some ⟨Wd, 0, none⟩)), rfl, by kernel_rfl, ?_⟩, ⟨25, (.pointer (some ⟨Wd, 2, none⟩)), rfl, by kernel_rfl, ?_⟩, Or.inr ⟨rfl, ?q7_12⟩, trivial⟩
  case q7_4 =>
   intro bsE vsE W hlb hlv hnd hbk h
   obtain ⟨b0, b1, rfl⟩ := ll2 hlb
   obtain ⟨v0, v1, rfl⟩ := ll2 hlv
   obtain rfl : b0 = false := hbk
   replace h : AtS (fun W => W.heap[X]? = some (.cells (smC x).toArray 43 (0, 0))) (fun W => DoS w0 Wd R vb vk bks S g vp vpk vmd vbt vmk X x W) (fun W => DoS w0 Wd R vb vk bks { S with at_ := atW S x } g vp vpk vmd vbt vmk X x W) (.int .i64 S.at_) false b1 (v0) W := h
   clear hnd
   have HST := Lib.hid h
   obtain rfl := h.n rfl; obtain ⟨-, c2, -, -, -, -, cl⟩ := (h.a rfl).c
   intro K Q hK
   simp only [putE, updAll, Act.put, sl1, sl2, sl3, sl4] at hK ⊢
   go_wp2_with fail
   all_goals (have hm : AtS (fun W => W.heap[X]? = some (.cells (smC x).toArray 43 (0, 0))) (fun W => DoS w0 Wd R vb vk bks S g vp vpk vmd vbt vmk X x W) (fun W => DoS w0 Wd R vb vk bks { S with at_ := atW S x } g vp vpk vmd vbt vmk X x W) (.int .i64 S.at_) true false ((.int .i64 S.at_)) W := ⟨h.p, h.a, h.z, (fun _ => rfl), (fun e => by cases e)⟩)
   all_goals (first | exact hK _ _ hm | exact hm)
  case q7_9 =>
   intro bsE vsE W hlb hlv hnd h
   obtain ⟨b0, b1, rfl⟩ := ll2 hlb
   obtain ⟨v0, v1, rfl⟩ := ll2 hlv
   obtain rfl : b0 = true := hnd 0 (by simp)
   replace h : AtS (fun W => W.heap[X]? = some (.cells (smC x).toArray 43 (0, 0))) (fun W => DoS w0 Wd R vb vk bks S g vp vpk vmd vbt vmk X x W) (fun W => DoS w0 Wd R vb vk bks { S with at_ := atW S x } g vp vpk vmd vbt vmk X x W) (.int .i64 S.at_) true b1 (v0) W := h
   clear hnd
   have HST := Lib.hid h
   obtain rfl := h.r rfl
   intro K Q hK
   simp only [putE, updAll, Act.put, sl1, sl2, sl3, sl4] at hK ⊢
   go_wp2_with (fail)
   all_goals (first | exact hK _ h | exact h)
  case q7_12 =>
   intro bsE vsE W hlb hlv hnd hbk h
   obtain ⟨b0, b1, rfl⟩ := ll2 hlb
   obtain ⟨v0, v1, rfl⟩ := ll2 hlv
   obtain rfl : b0 = true := hnd 0 (by simp)
   obtain rfl : b1 = false := hbk
   replace h : AtS (fun W => W.heap[X]? = some (.cells (smC x).toArray 43 (0, 0))) (fun W => DoS w0 Wd R vb vk bks S g vp vpk vmd vbt vmk X x W) (fun W => DoS w0 Wd R vb vk bks { S with at_ := atW S x } g vp vpk vmd vbt vmk X x W) (.int .i64 S.at_) true false (v0) W := h
   clear hnd
   have HST := Lib.hid h
   obtain ⟨-, c2, -, -, -, -, cl⟩ := (h.a rfl).c; have f2 := blk_free (o := 2) (h.a rfl).h.blk; have hd := (h.a rfl).setAt (t := S.at_ + (l4 : Int)); rw [← HAT.out] at hd
   intro K Q hK
   simp only [putE, updAll, Act.put, sl1, sl2, sl3, sl4] at hK ⊢
   go_wp2_with fail
   all_goals (have hm : AtS (fun W => W.heap[X]? = some (.cells (smC x).toArray 43 (0, 0))) (fun W => DoS w0 Wd R vb vk bks S g vp vpk vmd vbt vmk X x W) (fun W => DoS w0 Wd R vb vk bks { S with at_ := atW S x } g vp vpk vmd vbt vmk X x W) (.int .i64 S.at_) true true (v0) (W.setCell ⟨Wd, 2, none⟩ (.int .i64 (S.at_ + (l4 : Int)))) := ⟨by rw [← HAT.out]; exact hd.b, (fun e => by cases e), (fun _ => by rw [← HAT.out]; exact hd), h.r, (fun e => by cases e)⟩)
   all_goals (first | exact hK _ hm | exact hm)
  all_goals
   intro bsE vsE W hlb hlv hnd h
   obtain ⟨b0, b1, rfl⟩ := ll2 hlb
   obtain ⟨v0, v1, rfl⟩ := ll2 hlv
   replace h : AtS (fun W => W.heap[X]? = some (.cells (smC x).toArray 43 (0, 0))) (fun W => DoS w0 Wd R vb vk bks S g vp vpk vmd vbt vmk X x W) (fun W => DoS w0 Wd R vb vk bks { S with at_ := atW S x } g vp vpk vmd vbt vmk X x W) (.int .i64 S.at_) b0 b1 (v0) W := h
   clear hnd
   have HST := Lib.hid h
   have x6 : W.cell? ⟨X, 6, none⟩ = some (.int .u8 (x.later : Int)) := blk_cell h.p rfl; have xl := blk_lt h.p
   intro K Q hK
   simp only [putE, updAll, Act.put, sl1, sl2, sl3, sl4] at hK ⊢
   go_wp2_with (fail)
   all_goals (first | exact hK _ h | exact h)
 case done =>
  intro vsE W hlv h
  obtain ⟨v0, v1, rfl⟩ := ll2 hlv
  replace h : AtS (fun W => W.heap[X]? = some (.cells (smC x).toArray 43 (0, 0))) (fun W => DoS w0 Wd R vb vk bks S g vp vpk vmd vbt vmk X x W) (fun W => DoS w0 Wd R vb vk bks { S with at_ := atW S x } g vp vpk vmd vbt vmk X x W) (.int .i64 S.at_) true true (v0) W := h
  have HST := Lib.hid h
  have HD := Lib.hid (h.z rfl)
  clear h HST hw1 hw2 hw3 hq hq4 hD0 HAT
  simp only [putE, updAll, Act.put, sl1, sl2, sl3, sl4]
  obtain ⟨ap, cp9, evp⟩ := row_slice HD.out.h.pk
  obtain ⟨am, cm9, evm⟩ := row_slice HD.out.h.md
  subst evp
  subst evm
  obtain ⟨c0, c2, c3, c4, c5, c6, cl⟩ := HD.out.c; obtain ⟨x0, x1, x2, x3, x4, x5, x6, xl⟩ := HD.out.sm
  have hby : Int.tmod (x.by_ : Int) 3 = (byW x : Int) := by rw [Int.tmod_eq_emod_of_nonneg (by omega)]; rfl
  have hb3 : byW x < 3 := Nat.mod_lt _ (by decide)
  have hbx := HX.out.by_
  have hbw : IntKind.i64.wrap (byW x : Int) = (byW x : Int) := Go.IntWalk.i64_in _ ⟨by omega, by omega⟩
  have hbv : IntKind.i64.wrap (x.by_ : Int) = (x.by_ : Int) := Go.IntWalk.i64_in _ ⟨by omega, by omega⟩
  go_upto_if 35 with fail
  clear hby hbw hbv
  go_cut [6, 7] from 35 to 70 (fun s6 s7 W => s6 = .string (packW S x) ∧ s7 = .string (toW S x) ∧ Hid (DoS w0 Wd R vb vk bks { S with at_ := atW S x } g vp (.slice ap S.packs.length cp9) (.slice am S.mods.length cm9) vbt vmk X x W))
  case first =>
   by_cases hne : S.packs.length = 0
   ·have h1 : ¬ (S.packs.length : Int) > 0 := by omega
    have HNE := Lib.hid hne
    clear hne
    go_wp2_with fail
    go_meet
    exact ⟨by unfold packW noneT; rw [pick_no HNE.out], by unfold toW noneT; rw [pick_no HNE.out], HD⟩
   ·have h1 : (S.packs.length : Int) > 0 := by omega
    have hn0 : ¬ (S.packs.length : Int) = 0 := by omega
    have hn2 : ¬ S.packs = [] := by rintro e; rw [e] at hne; exact hne rfl
    have hn1 : ((S.packs.length : Int) == 0) = false := by rw [beq_eq_false_iff_ne]; omega
    have hxp := HX.out.p
    have hxt := HX.out.t
    obtain ⟨bk, ebk, hbk, hck⟩ := row_cells (b := 0) (c := cp9) HD.out.h.pk (by exact hne)
    subst ebk
    have gp := hck (x.p % S.packs.length) (.string (packW S x)) (by unfold strC; rw [List.getElem?_map]; exact congrArg _ (pick_yes hne).2)
    have gt := hck (x.t % S.packs.length) (.string (toW S x)) (by unfold strC; rw [List.getElem?_map]; exact congrArg _ (pick_yes hne).2)
    have kq0 : Int.tmod (x.p : Int) (S.packs.length : Int) = ((x.p % S.packs.length : Nat) : Int) := by rw [Int.tmod_eq_emod_of_nonneg (by omega)]; rfl
    have kl0 : ((x.p % S.packs.length : Nat) : Int) < S.packs.length := by have := Nat.mod_lt x.p (show 0 < S.packs.length by omega); omega
    have kz0 : (0 : Int) ≤ ((x.p % S.packs.length : Nat) : Int) := by omega
    have kw0 : IntKind.i64.wrap ((x.p % S.packs.length : Nat) : Int) = ((x.p % S.packs.length : Nat) : Int) := Go.IntWalk.i64_in _ ⟨by omega, by have := HL.out; omega⟩
    have kv0 : IntKind.i64.wrap (x.p : Int) = (x.p : Int) := Go.IntWalk.i64_in _ ⟨by omega, by omega⟩
    have kq1 : Int.tmod (x.t : Int) (S.packs.length : Int) = ((x.t % S.packs.length : Nat) : Int) := by rw [Int.tmod_eq_emod_of_nonneg (by omega)]; rfl
    have kl1 : ((x.t % S.packs.length : Nat) : Int) < S.packs.length := by have := Nat.mod_lt x.t (show 0 < S.packs.length by omega); omega
    have kz1 : (0 : Int) ≤ ((x.t % S.packs.length : Nat) : Int) := by omega
    have kw1 : IntKind.i64.wrap ((x.t % S.packs.length : Nat) : Int) = ((x.t % S.packs.length : Nat) : Int) := Go.IntWalk.i64_in _ ⟨by omega, by have := HL.out; omega⟩
    have kv1 : IntKind.i64.wrap (x.t : Int) = (x.t : Int) := Go.IntWalk.i64_in _ ⟨by omega, by omega⟩
    generalize packW S x = T1 at *
    generalize toW S x = T2 at *
    generalize x.p % S.packs.length = k1 at *
    generalize x.t % S.packs.length = k2 at *
    have HHC := Lib.hid (And.intro gp (And.intro gt hbk))
    clear hck HL HX HO HG HPK HTO HMD
    go_upto_region 5 with fail
    have e1 := fun s : WStep W => cell_step c3 s.2
    have e2 := fun s : WStep W => cell_step x2 s.2
    have e3 := fun s : WStep W => Nat.lt_of_lt_of_le cl s.2.size
    have e4 := fun s : WStep W => Nat.lt_of_lt_of_le xl s.2.size
    have e5 := fun s : WStep W => cell_step gp s.2
    have e6 := fun s : WStep W => Nat.lt_of_lt_of_le hbk s.2.size
    refine wp_region_lock (by kernel_rfl) (by kernel_rfl) ?_
    repeat (first | (refine WQ.skip rfl rfl rfl rfl ?_; simp only [Act.put, sl1, sl2, sl3, sl4]) | ((first | (apply WQ.val; (exact rfl)) | (apply WQ.valg; (exact rfl); (exact rfl); (exact rfl))); (intro w9 hw9; obtain ⟨s9, rfl⟩ := hw9; simp [go_sem, e1, e2, e3, e4, e5, e6, kq0, kl0, kz0, kw0, kv0, kq1, kl1, kz1, kw1, kv1, hn0, hn1, hn2]; first | done | exact rfl); simp only [Act.put, sl1, sl2, sl3, sl4]))
    refine WQ.fin fun W5 hb5 => ?_
    clear e1 e2 e3 e4 e5 e6
    have HD1 := Lib.hid (HD.out.step hb5)
    go_upto_region 6 with fail
    have e1 := fun s : WStep W5 => cell_step c3 (bStep hb5 s.2)
    have e2 := fun s : WStep W5 => cell_step x4 (bStep hb5 s.2)
    have e3 := fun s : WStep W5 => Nat.lt_of_lt_of_le cl (bStep hb5 s.2).size
    have e4 := fun s : WStep W5 => Nat.lt_of_lt_of_le xl (bStep hb5 s.2).size
    have e5 := fun s : WStep W5 => cell_step gt (bStep hb5 s.2)
    have e6 := fun s : WStep W5 => Nat.lt_of_lt_of_le hbk (bStep hb5 s.2).size
    refine wp_region_lock (by kernel_rfl) (by kernel_rfl) ?_
    repeat (first | (refine WQ.skip rfl rfl rfl rfl ?_; simp only [Act.put, sl1, sl2, sl3, sl4]) | ((first | (apply WQ.val; (exact rfl)) | (apply WQ.valg; (exact rfl); (exact rfl); (exact rfl))); (intro w9 hw9; obtain ⟨s9, rfl⟩ := hw9; simp [go_sem, e1, e2, e3, e4, e5, e6, kq0, kl0, kz0, kw0, kv0, kq1, kl1, kz1, kw1, kv1, hn0, hn1, hn2]; first | done | exact rfl); simp only [Act.put, sl1, sl2, sl3, sl4]))
    refine WQ.fin fun W6 hb6 => ?_
    clear e1 e2 e3 e4 e5 e6
    have HD2 := Lib.hid (HD1.out.step hb6)
    go_wp2_with fail
    go_meet
    exact ⟨rfl, rfl, HD2⟩
  case rest =>
   obtain ⟨rfl, rfl, HE⟩ := hcut
   clear c0 c2 c3 c4 c5 c6 cl x0 x1 x2 x3 x4 x5 x6 xl HD
   have HD := HE
   clear HE
   obtain ⟨c0, c2, c3, c4, c5, c6, cl⟩ := HD.out.c; obtain ⟨x0, x1, x2, x3, x4, x5, x6, xl⟩ := HD.out.sm
   go_upto_if 71 with fail
   go_cut [8] from 71 to 86 (fun s8 W => s8 = .string (modW S x) ∧ Hid (DoS w0 Wd R vb vk bks { S with at_ := atW S x } g vp (.slice ap S.packs.length cp9) (.slice am S.mods.length cm9) vbt vmk X x W))
   case first =>
    by_cases hne : S.mods.length = 0
    ·have h1 : ¬ (S.mods.length : Int) > 0 := by omega
     have HNE := Lib.hid hne
     clear hne
     go_wp2_with fail
     go_meet
     exact ⟨by unfold modW none0; rw [pick_no HNE.out], HD⟩
    ·have h1 : (S.mods.length : Int) > 0 := by omega
     have hn0 : ¬ (S.mods.length : Int) = 0 := by omega
     have hn2 : ¬ S.mods = [] := by rintro e; rw [e] at hne; exact hne rfl
     have hn1 : ((S.mods.length : Int) == 0) = false := by rw [beq_eq_false_iff_ne]; omega
     have hxm := HX.out.m
     obtain ⟨bk, ebk, hbk, hck⟩ := row_cells (b := 0) (c := cm9) HD.out.h.md (by exact hne)
     subst ebk
     have gp := hck (x.m % S.mods.length) (.string (modW S x)) (by unfold strC; rw [List.getElem?_map]; exact congrArg _ (pick_yes hne).2)
     have kq0 : Int.tmod (x.m : Int) (S.mods.length : Int) = ((x.m % S.mods.length : Nat) : Int) := by rw [Int.tmod_eq_emod_of_nonneg (by omega)]; rfl
     have kl0 : ((x.m % S.mods.length : Nat) : Int) < S.mods.length := by have := Nat.mod_lt x.m (show 0 < S.mods.length by omega); omega
     have kz0 : (0 : Int) ≤ ((x.m % S.mods.length : Nat) : Int) := by omega
     have kw0 : IntKind.i64.wrap ((x.m % S.mods.length : Nat) : Int) = ((x.m % S.mods.length : Nat) : Int) := Go.IntWalk.i64_in _ ⟨by omega, by have := HL.out; omega⟩
     have kv0 : IntKind.i64.wrap (x.m : Int) = (x.m : Int) := Go.IntWalk.i64_in _ ⟨by omega, by omega⟩
     generalize modW S x = T1 at *
     generalize x.m % S.mods.length = k1 at *
     clear hck HL HX HO HG HPK HTO HMD
     go_upto_region 8 with fail
     have e1 := fun s : WStep wc => cell_step c4 s.2
     have e2 := fun s : WStep wc => cell_step x3 s.2
     have e3 := fun s : WStep wc => Nat.lt_of_lt_of_le cl s.2.size
     have e4 := fun s : WStep wc => Nat.lt_of_lt_of_le xl s.2.size
     have e5 := fun s : WStep wc => cell_step gp s.2
     have e6 := fun s : WStep wc => Nat.lt_of_lt_of_le hbk s.2.size
     refine wp_region_lock (by kernel_rfl) (by kernel_rfl) ?_
     repeat (first | (refine WQ.skip rfl rfl rfl rfl ?_; simp only [Act.put, sl1, sl2, sl3, sl4]) | ((first | (apply WQ.val; (exact rfl)) | (apply WQ.valg; (exact rfl); (exact rfl); (exact rfl))); (intro w9 hw9; obtain ⟨s9, rfl⟩ := hw9; simp [go_sem, e1, e2, e3, e4, e5, e6, kq0, kl0, kz0, kw0, kv0, hn0, hn1, hn2]; first | done | exact rfl); simp only [Act.put, sl1, sl2, sl3, sl4]))
     refine WQ.fin fun W5 hb5 => ?_
     clear e1 e2 e3 e4 e5 e6
     have HD1 := Lib.hid (HD.out.step hb5)
     go_wp2_with fail
     go_meet
     exact ⟨rfl, HD1⟩
   case rest =>
    obtain ⟨rfl, HE⟩ := hcut
    clear c0 c2 c3 c4 c5 c6 cl x0 x1 x2 x3 x4 x5 x6 xl HD
    have HD := HE
    clear HE
    obtain ⟨c0, c2, c3, c4, c5, c6, cl⟩ := HD.out.c; obtain ⟨x0, x1, x2, x3, x4, x5, x6, xl⟩ := HD.out.sm
    obtain ⟨d, hd⟩ : ∃ d, x.do_ % 11 = d := ⟨_, rfl⟩
    have hdo : Int.tmod (x.do_ : Int) 11 = ((d : Nat) : Int) := by rw [Int.tmod_eq_emod_of_nonneg (by omega), ← hd]; rfl
    have hd3 : d < 3 := by rw [← hd]; exact HK9.out
    clear HK9
    ·have hdw : IntKind.u8.wrap (d : Int) = (d : Int) := Go.IntWalk.u8_in _ ⟨by omega, by omega⟩
     have HD3 : Hid (x.do_ % 11 < 3) := by show x.do_ % 11 < 3; omega
     go_upto_if 90 with fail
     go_cut [90] from 91 to 93 (fun s90 W => s90 = .bool true ∧ Hid (DoS w0 Wd R vb vk bks { S with at_ := atW S x } g vp (.slice ap S.packs.length cp9) (.slice am S.mods.length cm9) vbt vmk X x W))
     case first =>
      have h3 : d = 0 ∨ d = 1 ∨ d = 2 := by omega
      rcases h3 with rfl | rfl | rfl
      all_goals (go_wp2_with fail; go_meet; exact ⟨rfl, HD⟩)
     case rest =>
      obtain ⟨rfl, HE⟩ := hcut
      clear c0 c2 c3 c4 c5 c6 cl x0 x1 x2 x3 x4 x5 x6 xl HD
      have HD := HE
      clear HE
      obtain ⟨c0, c2, c3, c4, c5, c6, cl⟩ := HD.out.c; obtain ⟨x0, x1, x2, x3, x4, x5, x6, xl⟩ := HD.out.sm
      have HRS : Hid (resW S x = (enterA S.a (byW x : Int) (nameP S.packs.length) (1, atW S x, 1000 + (x.n : Int), ((x.n % 5 : Nat) : Int), batchP x.t, emp))) := by show resW S x = _; unfold resW; rw [if_pos HD3.out]; rfl
      clear hd hd3 hdo hdw
      obtain ⟨C9, hC9⟩ : ∃ C9, (enterA S.a (byW x : Int) (nameP S.packs.length) (1, atW S x, 1000 + (x.n : Int), ((x.n % 5 : Nat) : Int), batchP x.t, emp)).1 = C9 := ⟨_, rfl⟩
      have HC9 := Lib.hid hC9
      have CE : Hid (∀ W, DoS w0 Wd R vb vk bks { S with at_ := atW S x } g vp (.slice ap S.packs.length cp9) (.slice am S.mods.length cm9) vbt vmk X x W → Calls Tryz.prog 54 #[.pointer (some ⟨Wd, 0, none⟩), .int .i64 (byW x : Int), .string (nameP S.packs.length), (.agg #[.int .i64 1, .int .i64 0, .int .i64 (1000 + (x.n : Int)), .int .i64 ((x.n % 5 : Nat) : Int), .string (batchP x.t), .string emp])] W fun en w' => en = .returned (.bool (C9 == 0)) ∧ WdE w0 Wd R vb vk bks { ({ S with at_ := atW S x } : WdS) with a := (enterA S.a (byW x : Int) (nameP S.packs.length) (1, atW S x, 1000 + (x.n : Int), ((x.n % 5 : Nat) : Int), batchP x.t, emp)).2 } w' ∧ KeepS W w') := fun W hW => by
       rw [← hC9]
       exact wenter_0 ⟨_, _, _, _, _, _, hW.h⟩ HO.out HG.out (byW x : Int) (nameP S.packs.length) 1 0 (1000 + (x.n : Int)) ((x.n % 5 : Nat) : Int) (batchP x.t) emp ⟨by have := (nameB_size (nameP_ok S.packs.length)).2; omega, by show (batchP x.t).size ≤ 1000000; have := (nameB_size (batchP_ok x.t)).2; omega, by show (0 : Nat) ≤ 1000000; decide⟩
      clear hC9
      have hxn := HX.out.n
      have hn1 : IntKind.i64.wrap (x.n : Int) = (x.n : Int) := Go.IntWalk.i64_in _ ⟨by omega, by omega⟩
      have hn6 : Int.tmod (x.n : Int) 5 = ((x.n % 5 : Nat) : Int) := by rw [Int.tmod_eq_emod_of_nonneg (by omega)]; rfl
      have hn7 : IntKind.u16.wrap ((x.n % 5 : Nat) : Int) = ((x.n % 5 : Nat) : Int) := Go.IntWalk.u16_in _ ⟨by omega, by omega⟩
      have hn8 : IntKind.i64.wrap ((x.n % 5 : Nat) : Int) = ((x.n % 5 : Nat) : Int) := Go.IntWalk.i64_in _ ⟨by omega, by omega⟩
      have hn9 : IntKind.i64.wrap (1000 + (x.n : Int)) = 1000 + (x.n : Int) := Go.IntWalk.i64_in _ ⟨by omega, by omega⟩
      have hpl := HL.out.1
      go_upto_region 15 with (go_at_call 53; refine (name_any S.packs.length (by omega) _).mono ?_; rintro en w9 ⟨rfl, hb9⟩; have y5 := cell_step x5 hb9; have yl := Nat.lt_of_lt_of_le xl hb9.size)
      clear y5 yl
      have HD9 := Lib.hid (HD.out.step hb9)
      clear c0 c2 c3 c4 c5 c6 cl x0 x1 x2 x3 x4 x5 x6 xl hb9
      refine region_all 14 13 262 [(10, 114), (12, 116)] [(none, []), (none, []), (none, []), (none, []), (none, []), (none, []), (none, []), (none, []), (none, []), (none, []), (some 0, []), (none, [0]), (some 1, [0]), (none, [1])] [(104, (.pointer (some ⟨Wd, 0, none⟩))), (105, (.int .i64 (byW x : Int))), (106, (.string (nameP S.packs.length))), (107, (.pointer (some ⟨X, 5, none⟩))), (108, (.int .u16 (x.n : Int))), (109, (.int .i64 (x.n : Int))), (110, (.int .i64 (1000 + (x.n : Int)))), (111, (.int .i64 ((x.n % 5 : Nat) : Int))), (112, (.pointer (some ⟨X, 4, none⟩))), (113, (.int .u8 (x.t : Int))), (115, (.agg #[.int .i64 1, .int .i64 0, .int .i64 (1000 + (x.n : Int)), .int .i64 ((x.n % 5 : Nat) : Int), .string (batchP x.t), .string emp])), (117, (.bool (!(C9 == 0))))] (fun bsE vsE W => EnV (fun W => W.heap[X]? = some (.cells (smC x).toArray 43 (0, 0))) (fun W => DoS w0 Wd R vb vk bks { S with at_ := atW S x } g vp (.slice ap S.packs.length cp9) (.slice am S.mods.length cm9) vbt vmk X x W) (fun W => WdE w0 Wd R vb vk bks { ({ S with at_ := atW S x } : WdS) with a := (enterA S.a (byW x : Int) (nameP S.packs.length) (1, atW S x, 1000 + (x.n : Int), ((x.n % 5 : Nat) : Int), batchP x.t, emp)).2 } W) (.string (batchP x.t)) (.bool (C9 == 0)) (bsE.getD 0 false) (bsE.getD 1 false) ((vsE.getD 0 undef)) ((vsE.getD 1 undef)) W) (by kernel_rfl) (by kernel_rfl) rfl rfl (by kernel_rfl) (by rfl) ?h0 ?each ?done
      case h0 =>
       intro vsE hlv
       obtain ⟨v0, v1, rfl⟩ := ll2 hlv
       exact ⟨(HD9.out.step (Below.refl _ _).drew).b, (fun _ => HD9.out.step (Below.refl _ _).drew), (fun e => by cases e), (fun e => by cases e), (fun _ => rfl), (fun e => by cases e)⟩
      case each =>
       simp only [AllE]
       refine ⟨⟨104, (.pointer (some ⟨Wd, 0, none⟩)), rfl, by kernel_rfl, ?_⟩, ⟨105, (.int .i64 (byW x : Int)), rfl, by kernel_rfl, ?_⟩, ⟨106, (.string (nameP S.packs.length)), rfl, by kernel_rfl, ?_⟩, ⟨107, (.pointer (some ⟨X, 5, none⟩)), rfl, by kernel_rfl, ?_⟩, ⟨108, (.int .u16 (x.n : Int)), rfl, by kernel_rfl, ?_⟩, ⟨109, (.int .i64 (x.n : Int)), rfl, by kernel_rfl, ?_⟩, ⟨110, (.int .i64 (1000 + (x.n : Int))), rfl, by kernel_rfl, ?_⟩, ⟨111, (.int .i64 ((x.n % 5 : Nat) : Int)), rfl, by kernel_rfl, ?_⟩, ⟨112, (.pointer (some ⟨X, 4, none⟩)), rfl, by kernel_rfl, ?_⟩, ⟨113, (.int .u8 (x.t : Int)), rfl, by kernel_rfl, ?_⟩, Or.inl ⟨114, rfl, ?q6_10⟩, ⟨115, (.agg #[.int .i64 1, .int .i64 0, .int .i64 (1000 + (x.n : Int)), .int .i64 ((x.n % 5 : Nat) : Int), .string (batchP x.t), .string emp]), rfl, by kernel_rfl, ?q6_11⟩, Or.inl ⟨116, rfl, ?q6_12⟩, ⟨117, (.bool (!(C9 == 0))), rfl, by kernel_rfl, ?q6_13⟩, trivial⟩
       case q6_10 =>
        intro bsE vsE W hlb hlv hnd hbk h
        obtain ⟨b0, b1, rfl⟩ := ll2 hlb
        obtain ⟨v0, v1, rfl⟩ := ll2 hlv
        obtain rfl : b0 = false := hbk
        replace h : EnV (fun W => W.heap[X]? = some (.cells (smC x).toArray 43 (0, 0))) (fun W => DoS w0 Wd R vb vk bks { S with at_ := atW S x } g vp (.slice ap S.packs.length cp9) (.slice am S.mods.length cm9) vbt vmk X x W) (fun W => WdE w0 Wd R vb vk bks { ({ S with at_ := atW S x } : WdS) with a := (enterA S.a (byW x : Int) (nameP S.packs.length) (1, atW S x, 1000 + (x.n : Int), ((x.n % 5 : Nat) : Int), batchP x.t, emp)).2 } W) (.string (batchP x.t)) (.bool (C9 == 0)) false b1 (v0) (v1) W := h
        clear hnd
        have HST := Lib.hid h
        obtain rfl := h.n rfl; have hs := h.a rfl; have hp := h.p
        intro K Q hK
        simp only [putE, updAll, Act.put, sl1, sl2, sl3, sl4] at hK ⊢
        go_wp2_with (go_at_call 20; refine (batch_any x.t HX.out.t _).mono ?_; rintro en w9 ⟨rfl, hb9⟩)
        all_goals (have hm : EnV (fun W => W.heap[X]? = some (.cells (smC x).toArray 43 (0, 0))) (fun W => DoS w0 Wd R vb vk bks { S with at_ := atW S x } g vp (.slice ap S.packs.length cp9) (.slice am S.mods.length cm9) vbt vmk X x W) (fun W => WdE w0 Wd R vb vk bks { ({ S with at_ := atW S x } : WdS) with a := (enterA S.a (byW x : Int) (nameP S.packs.length) (1, atW S x, 1000 + (x.n : Int), ((x.n % 5 : Nat) : Int), batchP x.t, emp)).2 } W) (.string (batchP x.t)) (.bool (C9 == 0)) true false ((.string (batchP x.t))) (v1) w9 := ⟨blk_step hp hb9, (fun _ => hs.step hb9), (fun e => by cases e), (fun _ => rfl), (fun e => by cases e), (fun e => by cases e)⟩)
        all_goals (first | exact hK _ _ hm | exact hm)
       case q6_11 =>
        intro bsE vsE W hlb hlv hnd h
        obtain ⟨b0, b1, rfl⟩ := ll2 hlb
        obtain ⟨v0, v1, rfl⟩ := ll2 hlv
        obtain rfl : b0 = true := hnd 0 (by simp)
        replace h : EnV (fun W => W.heap[X]? = some (.cells (smC x).toArray 43 (0, 0))) (fun W => DoS w0 Wd R vb vk bks { S with at_ := atW S x } g vp (.slice ap S.packs.length cp9) (.slice am S.mods.length cm9) vbt vmk X x W) (fun W => WdE w0 Wd R vb vk bks { ({ S with at_ := atW S x } : WdS) with a := (enterA S.a (byW x : Int) (nameP S.packs.length) (1, atW S x, 1000 + (x.n : Int), ((x.n % 5 : Nat) : Int), batchP x.t, emp)).2 } W) (.string (batchP x.t)) (.bool (C9 == 0)) true b1 (v0) (v1) W := h
        clear hnd
        have HST := Lib.hid h
        obtain rfl := h.r0 rfl
        intro K Q hK
        simp only [putE, updAll, Act.put, sl1, sl2, sl3, sl4] at hK ⊢
        go_wp2_with (fail)
        all_goals (first | exact hK _ h | exact h)
       case q6_12 =>
        intro bsE vsE W hlb hlv hnd hbk h
        obtain ⟨b0, b1, rfl⟩ := ll2 hlb
        obtain ⟨v0, v1, rfl⟩ := ll2 hlv
        obtain rfl : b0 = true := hnd 0 (by simp)
        obtain rfl : b1 = false := hbk
        replace h : EnV (fun W => W.heap[X]? = some (.cells (smC x).toArray 43 (0, 0))) (fun W => DoS w0 Wd R vb vk bks { S with at_ := atW S x } g vp (.slice ap S.packs.length cp9) (.slice am S.mods.length cm9) vbt vmk X x W) (fun W => WdE w0 Wd R vb vk bks { ({ S with at_ := atW S x } : WdS) with a := (enterA S.a (byW x : Int) (nameP S.packs.length) (1, atW S x, 1000 + (x.n : Int), ((x.n % 5 : Nat) : Int), batchP x.t, emp)).2 } W) (.string (batchP x.t)) (.bool (C9 == 0)) true false (v0) (v1) W := h
        clear hnd
        have HST := Lib.hid h
        obtain rfl := h.r0 rfl; have hs := h.a rfl; have hp := h.p
        intro K Q hK
        simp only [putE, updAll, Act.put, sl1, sl2, sl3, sl4] at hK ⊢
        go_wp2_with (go_at_call 54; refine (CE.out _ hs).mono ?_; rintro en w9 ⟨rfl, hz, hks⟩)
        all_goals (have hm : EnV (fun W => W.heap[X]? = some (.cells (smC x).toArray 43 (0, 0))) (fun W => DoS w0 Wd R vb vk bks { S with at_ := atW S x } g vp (.slice ap S.packs.length cp9) (.slice am S.mods.length cm9) vbt vmk X x W) (fun W => WdE w0 Wd R vb vk bks { ({ S with at_ := atW S x } : WdS) with a := (enterA S.a (byW x : Int) (nameP S.packs.length) (1, atW S x, 1000 + (x.n : Int), ((x.n % 5 : Nat) : Int), batchP x.t, emp)).2 } W) (.string (batchP x.t)) (.bool (C9 == 0)) true true ((.string (batchP x.t))) ((.bool (C9 == 0))) w9 := ⟨hks _ _ _ hp, (fun e => by cases e), (fun _ => hz), (fun _ => rfl), (fun e => by cases e), (fun _ => rfl)⟩)
        all_goals (first | exact hK _ _ hm | exact hm)
       case q6_13 =>
        intro bsE vsE W hlb hlv hnd h
        obtain ⟨b0, b1, rfl⟩ := ll2 hlb
        obtain ⟨v0, v1, rfl⟩ := ll2 hlv
        obtain rfl : b1 = true := hnd 1 (by simp)
        replace h : EnV (fun W => W.heap[X]? = some (.cells (smC x).toArray 43 (0, 0))) (fun W => DoS w0 Wd R vb vk bks { S with at_ := atW S x } g vp (.slice ap S.packs.length cp9) (.slice am S.mods.length cm9) vbt vmk X x W) (fun W => WdE w0 Wd R vb vk bks { ({ S with at_ := atW S x } : WdS) with a := (enterA S.a (byW x : Int) (nameP S.packs.length) (1, atW S x, 1000 + (x.n : Int), ((x.n % 5 : Nat) : Int), batchP x.t, emp)).2 } W) (.string (batchP x.t)) (.bool (C9 == 0)) b0 true (v0) (v1) W := h
        clear hnd
        have HST := Lib.hid h
        obtain rfl := h.r1 rfl
        intro K Q hK
        simp only [putE, updAll, Act.put, sl1, sl2, sl3, sl4] at hK ⊢
        go_wp2_with (fail)
        all_goals (first | exact hK _ h | exact h)
       all_goals
        intro bsE vsE W hlb hlv hnd h
        obtain ⟨b0, b1, rfl⟩ := ll2 hlb
        obtain ⟨v0, v1, rfl⟩ := ll2 hlv
        replace h : EnV (fun W => W.heap[X]? = some (.cells (smC x).toArray 43 (0, 0))) (fun W => DoS w0 Wd R vb vk bks { S with at_ := atW S x } g vp (.slice ap S.packs.length cp9) (.slice am S.mods.length cm9) vbt vmk X x W) (fun W => WdE w0 Wd R vb vk bks { ({ S with at_ := atW S x } : WdS) with a := (enterA S.a (byW x : Int) (nameP S.packs.length) (1, atW S x, 1000 + (x.n : Int), ((x.n % 5 : Nat) : Int), batchP x.t, emp)).2 } W) (.string (batchP x.t)) (.bool (C9 == 0)) b0 b1 (v0) (v1) W := h
        clear hnd
        have HST := Lib.hid h
        have gx := h.p; have x5 := blk_cell (o := 5) gx rfl; have x4 := blk_cell (o := 4) gx rfl; have xl := blk_lt gx; clear gx
        intro K Q hK
        simp only [putE, updAll, Act.put, sl1, sl2, sl3, sl4] at hK ⊢
        go_wp2_with (fail)
        all_goals (first | exact hK _ h | exact h)
      case done =>
       intro vsE W hlv h
       obtain ⟨v0, v1, rfl⟩ := ll2 hlv
       replace h : EnV (fun W => W.heap[X]? = some (.cells (smC x).toArray 43 (0, 0))) (fun W => DoS w0 Wd R vb vk bks { S with at_ := atW S x } g vp (.slice ap S.packs.length cp9) (.slice am S.mods.length cm9) vbt vmk X x W) (fun W => WdE w0 Wd R vb vk bks { ({ S with at_ := atW S x } : WdS) with a := (enterA S.a (byW x : Int) (nameP S.packs.length) (1, atW S x, 1000 + (x.n : Int), ((x.n % 5 : Nat) : Int), batchP x.t, emp)).2 } W) (.string (batchP x.t)) (.bool (C9 == 0)) true true (v0) (v1) W := h
       have HST := Lib.hid h
       have HZ := Lib.hid (h.z rfl)
       have HXB := Lib.hid h.p
       clear h HST
       simp only [putE, updAll, Act.put, sl1, sl2, sl3, sl4]
       obtain ⟨bz, hbz⟩ : ∃ b, (C9 == 0) = b := ⟨_, rfl⟩
       rw [hbz]
       have HBZ := Lib.hid hbz
       clear hbz
       cases bz
       ·go_wp2_with fail
        exact bodyPost_ret (v := .bool false) (by simp only [results, Tryz.results15]; go_simp) rfl ⟨by unfold okW; rw [HRS.out, HC9.out, HBZ.out], by unfold doW; rw [if_neg (fun c => by have h1 := c.2; rw [HRS.out, HC9.out] at h1; have h2 := HBZ.out; rw [h1] at h2; cases h2)]; unfold baseW; rw [HRS.out]; exact HZ.out⟩
       ·obtain ⟨i0, hi, hz0, hz1, hz2⟩ := info_parts infoS'
        obtain ⟨g2, vp2, vpk2, vmd2, vbt2, vmk2, h2⟩ := HZ.out
        have HB : Hid (DoS w0 Wd R vb vk bks (baseW S x) g2 vp2 vpk2 vmd2 vbt2 vmk2 X x W) := by refine ⟨?_, HXB.out⟩; unfold baseW; rw [HRS.out]; exact h2
        clear h2 HZ HXB CE HD9 HD
        generalize hN1 : nameP S.packs.length = N1 at *
        have HN1 := Lib.hid hN1
        have hN1s : N1.size ≤ 20 := by rw [← hN1]; exact (nameB_size (nameP_ok _)).2
        have HN1s := Lib.hid hN1s
        clear hN1 hN1s
        have HPK2 : Hid (W.ownsRow w0.heap.size 9 1 vpk2 S.packs.length (strC S.packs)) := HB.out.h.pk
        obtain ⟨ap2, cp2, evp2⟩ := row_slice HPK2.out
        subst evp2
        have HBL := Lib.hid HB.out.h.bel.size
        obtain ⟨c0, c2, c3, c4, c5, c6, cl⟩ := HB.out.c
        go_upto_region 18 with (at_builtin; go_loud (refine wpList_app _ rfl (.tmp 122) (.tmp 124) 47 rfl w0.heap.size 9 i0 _ 1 16 Tryz.underlying47 hi hz0 hz1 hz2 rfl (by decide) _ S.packs.length (strC S.packs) rfl (own_step HPK2.out bAl) (some ⟨W.heap.size, 0, none⟩) 1 1 [.string N1] rfl rfl new_cellsB (str1 N1) (by unfold maxLen; omega) (by omega) (by have := HBL.out; simp; omega) ?_); intro v' w5 hown hgrow hat; obtain ⟨a5, q5, ev5⟩ := row_slice hown; subst ev5; have hb5 := blk_kept (blk_step HB.out.h.blk bAl) hgrow (own_step HPK2.out bAl) (by decide); have k3 : w5.cell? ⟨Wd, 3, none⟩ = some (.slice ap2 S.packs.length cp2) := blk_cell (o := 3) hb5 rfl; have f3 := blk_free (o := 3) hb5; have kl := blk_lt hb5)
        have hB1 := (HB.out.step (bAl (o := .cells #[.string N1] 9))).appPk hgrow hown hat
        have HB1 := Lib.hid hB1.2.2
        clear hB1 hown hgrow hat hb5 k3 f3 kl c0 c2 c3 c4 c5 c6 cl HPK2 HB HBL hi hz0 hz1 hz2
        generalize World.setCell _ _ _ = W1 at *
        obtain ⟨S3, hS3⟩ : ∃ S3 : WdS, ({ baseW S x with packs := (baseW S x).packs ++ [N1] } : WdS) = S3 := ⟨_, rfl⟩
        have HB3 : Hid (DoS w0 Wd R vb vk bks S3 g2 vp2 (.slice a5 (S.packs.length + 1) q5) vmd2 vbt2 vmk2 X x W1) := by rw [← hS3]; exact HB1.out
        have hl3 : S3.bts.length ≤ 1000 ∧ S3.mds.length ≤ 1000 ∧ S3.mods.length ≤ 10000 := by rw [← hS3]; exact HL3.out
        have HL9 := Lib.hid hl3
        have HS3 := Lib.hid hS3
        have HFIN : Hid (doW S x = ({ S3 with bts := S3.bts ++ [batchP x.t], mds := S3.mds ++ [S3.at_], mods := S3.mods ++ (List.range (x.n % 5)).map (digN N1) } : WdS)) := by
         show doW S x = _
         have e : nameP (baseW S x).packs.length = N1 := HN1.out
         unfold doW
         rw [if_pos ⟨HD3.out, by rw [HRS.out, HC9.out]; simpa using HBZ.out⟩, ← hS3]
         unfold addW
         rw [e]
        clear HB1 hS3 hl3
        generalize (Value.slice a5 (S.packs.length + 1) q5) = vpk3 at *
        have HP1 : Hid (∀ W w2 : World, W.heap[X]? = some (.cells (smC x).toArray 43 (0, 0)) → Below W.heap.size W w2 → w2.heap[X]? = some (.cells (smC x).toArray 43 (0, 0))) := fun W w2 h hb => blk_step h hb
        have HP2 : Hid (∀ W w2 : World, DoS w0 Wd R vb vk bks S3 g2 vp2 vpk3 vmd2 vbt2 vmk2 X x W → Below W.heap.size W w2 → DoS w0 Wd R vb vk bks S3 g2 vp2 vpk3 vmd2 vbt2 vmk2 X x w2) := fun W w2 h hb => h.step hb
        refine region_all 13 13 262 [(4, 132), (7, 135), (8, 136), (9, 137), (12, 266)] [(none, []), (none, []), (none, []), (none, []), (some 0, []), (none, []), (none, []), (some 1, []), (some 2, [1]), (some 3, [0, 2]), (none, []), (none, []), (some 4, [3])] [(128, (.pointer (some ⟨Wd, 0, none⟩))), (129, (.pointer (some ⟨Wd, 0, none⟩))), (130, (.pointer (some ⟨Wd, 0, none⟩))), (131, (.pointer (some ⟨Wd, 5, none⟩))), (133, (.pointer (some ⟨X, 4, none⟩))), (134, (.int .u8 (x.t : Int))), (138, (.pointer (some ⟨Wd, 0, none⟩))), (139, (.pointer (some ⟨Wd, 5, none⟩)))] (fun bsE vsE W => PuS (fun W => W.heap[X]? = some (.cells (smC x).toArray 43 (0, 0))) (fun W => DoS w0 Wd R vb vk bks S3 g2 vp2 vpk3 vmd2 vbt2 vmk2 X x W) (fun W => ∃ v9, DoS w0 Wd R vb vk bks { S3 with bts := S3.bts ++ [batchP x.t] } g2 vp2 vpk3 vmd2 v9 vmk2 X x W) w0.heap.size 9 (.string (batchP x.t)) (.string (batchP x.t)) vbt2 S3.bts.length (strC S3.bts) (bsE.getD 0 false) (bsE.getD 1 false) (bsE.getD 2 false) (bsE.getD 3 false) (bsE.getD 4 false) ((vsE.getD 0 undef)) ((vsE.getD 1 undef)) ((vsE.getD 2 undef)) ((vsE.getD 3 undef)) W) (by kernel_rfl) (by kernel_rfl) rfl rfl (by kernel_rfl) (by rfl) ?h0 ?each ?done
        case h0 =>
         intro vsE hlv
         obtain ⟨v0, v1, v2, v3, v4, rfl⟩ := ll5 hlv
         exact ⟨(HB3.out.step (Below.refl _ _).drew).b, (fun _ => HB3.out.step (Below.refl _ _).drew), (fun e => by cases e), (fun e => by cases e), (fun e => by cases e), (fun e => by cases e), (fun e => by cases e), (fun _ => rfl), (fun _ => rfl), (fun _ => rfl), (fun _ => rfl), (HB3.out.step (Below.refl _ _).drew).h.bel.size⟩
        case each =>
         simp only [AllE]
         refine ⟨⟨128, (.pointer (some ⟨Wd, 0, none⟩)), rfl, by kernel_rfl, ?_⟩, ⟨129, (.pointer (some ⟨Wd, 0, none⟩)), rfl, by kernel_rfl, ?_⟩, ⟨130, (.pointer (some ⟨Wd, 0, none⟩)), rfl, by kernel_rfl, ?_⟩, ⟨131, (.pointer (some ⟨Wd, 5, none⟩)), rfl, by kernel_rfl, ?_⟩, Or.inl ⟨132, rfl, ?q5_4⟩, ⟨133, (.pointer (some ⟨X, 4, none⟩)), rfl, by kernel_rfl, ?_⟩, ⟨134, (.int .u8 (x.t : Int)), rfl, by kernel_rfl, ?_⟩, Or.inl ⟨135, rfl, ?q5_7⟩, Or.inl ⟨136, rfl, ?q5_8⟩, Or.inl ⟨137, rfl, ?q5_9⟩, ⟨138, (.pointer (some ⟨Wd, 0, none⟩)), rfl, by kernel_rfl, ?_⟩, ⟨139, (.pointer (some ⟨Wd, 5, none⟩)), rfl, by kernel_rfl, ?_⟩, Or.inr ⟨rfl, ?q5_12⟩, trivial⟩
         case q5_4 =>
          intro bsE vsE W hlb hlv hnd hbk h
          obtain ⟨b0, b1, b2, b3, b4, rfl⟩ := ll5 hlb
          obtain ⟨v0, v1, v2, v3, v4, rfl⟩ := ll5 hlv
          obtain rfl : b0 = false := hbk
          replace h : PuS (fun W => W.heap[X]? = some (.cells (smC x).toArray 43 (0, 0))) (fun W => DoS w0 Wd R vb vk bks S3 g2 vp2 vpk3 vmd2 vbt2 vmk2 X x W) (fun W => ∃ v9, DoS w0 Wd R vb vk bks { S3 with bts := S3.bts ++ [batchP x.t] } g2 vp2 vpk3 vmd2 v9 vmk2 X x W) w0.heap.size 9 (.string (batchP x.t)) (.string (batchP x.t)) vbt2 S3.bts.length (strC S3.bts) false b1 b2 b3 b4 (v0) (v1) (v2) (v3) W := h
          clear hnd
          have HST := Lib.hid h
          obtain rfl := h.n0 rfl; obtain rfl := h.n2 rfl; obtain ⟨-, -, -, -, c5, -, cl⟩ := (h.a rfl).c
          intro K Q hK
          simp only [putE, updAll, Act.put, sl1, sl2, sl3, sl4] at hK ⊢
          go_wp2_with fail
          all_goals (have hm := h.mk0)
          all_goals (first | exact hK _ _ hm | exact hm)
         case q5_7 =>
          intro bsE vsE W hlb hlv hnd hbk h
          obtain ⟨b0, b1, b2, b3, b4, rfl⟩ := ll5 hlb
          obtain ⟨v0, v1, v2, v3, v4, rfl⟩ := ll5 hlv
          obtain rfl : b1 = false := hbk
          replace h : PuS (fun W => W.heap[X]? = some (.cells (smC x).toArray 43 (0, 0))) (fun W => DoS w0 Wd R vb vk bks S3 g2 vp2 vpk3 vmd2 vbt2 vmk2 X x W) (fun W => ∃ v9, DoS w0 Wd R vb vk bks { S3 with bts := S3.bts ++ [batchP x.t] } g2 vp2 vpk3 vmd2 v9 vmk2 X x W) w0.heap.size 9 (.string (batchP x.t)) (.string (batchP x.t)) vbt2 S3.bts.length (strC S3.bts) b0 false b2 b3 b4 (v0) (v1) (v2) (v3) W := h
          clear hnd
          have HST := Lib.hid h
          obtain rfl := h.nY rfl; obtain rfl := h.n1 rfl; obtain rfl := h.n2 rfl
          intro K Q hK
          simp only [putE, updAll, Act.put, sl1, sl2, sl3, sl4] at hK ⊢
          go_wp2_with (go_at_call 20; refine (batch_any x.t HX.out.t _).mono ?_; rintro en w9 ⟨rfl, hb9⟩)
          all_goals (have hm := h.mkY HP1.out HP2.out hb9)
          all_goals (first | exact hK _ _ hm | exact hm)
         case q5_8 =>
          intro bsE vsE W hlb hlv hnd hbk h
          obtain ⟨b0, b1, b2, b3, b4, rfl⟩ := ll5 hlb
          obtain ⟨v0, v1, v2, v3, v4, rfl⟩ := ll5 hlv
          obtain rfl : b1 = true := hnd 1 (by simp)
          obtain rfl : b2 = false := hbk
          replace h : PuS (fun W => W.heap[X]? = some (.cells (smC x).toArray 43 (0, 0))) (fun W => DoS w0 Wd R vb vk bks S3 g2 vp2 vpk3 vmd2 vbt2 vmk2 X x W) (fun W => ∃ v9, DoS w0 Wd R vb vk bks { S3 with bts := S3.bts ++ [batchP x.t] } g2 vp2 vpk3 vmd2 v9 vmk2 X x W) w0.heap.size 9 (.string (batchP x.t)) (.string (batchP x.t)) vbt2 S3.bts.length (strC S3.bts) b0 true false b3 b4 (v0) (v1) (v2) (v3) W := h
          clear hnd
          have HST := Lib.hid h
          obtain rfl := h.n1 rfl; obtain rfl := h.n2 rfl; obtain rfl := h.ry rfl; have hm := h.mk1 HP1.out HP2.out
          intro K Q hK
          simp only [putE, updAll, Act.put, sl1, sl2, sl3, sl4] at hK ⊢
          go_wp2_with fail
          all_goals (first | exact hK _ _ hm | exact hm)
         case q5_9 =>
          intro bsE vsE W hlb hlv hnd hbk h
          obtain ⟨b0, b1, b2, b3, b4, rfl⟩ := ll5 hlb
          obtain ⟨v0, v1, v2, v3, v4, rfl⟩ := ll5 hlv
          obtain rfl : b0 = true := hnd 0 (by simp)
          obtain rfl : b2 = true := hnd 2 (by simp)
          obtain rfl : b3 = false := hbk
          replace h : PuS (fun W => W.heap[X]? = some (.cells (smC x).toArray 43 (0, 0))) (fun W => DoS w0 Wd R vb vk bks S3 g2 vp2 vpk3 vmd2 vbt2 vmk2 X x W) (fun W => ∃ v9, DoS w0 Wd R vb vk bks { S3 with bts := S3.bts ++ [batchP x.t] } g2 vp2 vpk3 vmd2 v9 vmk2 X x W) w0.heap.size 9 (.string (batchP x.t)) (.string (batchP x.t)) vbt2 S3.bts.length (strC S3.bts) true b1 true false b4 (v0) (v1) (v2) (v3) W := h
          clear hnd
          have HST := Lib.hid h
          obtain rfl := h.n2 rfl
          intro K Q hK
          simp only [putE, updAll, Act.put, sl1, sl2, sl3, sl4] at hK ⊢
          exact h.appS (fun W hW => hW.h.bt) (fun W w2 hW hp hg => blk_kept hp hg hW.h.bt (by decide)) (by have := HL9.out.1; omega) (.tmp 132) (.tmp 136) rfl rfl rfl hK
         case q5_12 =>
          intro bsE vsE W hlb hlv hnd hbk h
          obtain ⟨b0, b1, b2, b3, b4, rfl⟩ := ll5 hlb
          obtain ⟨v0, v1, v2, v3, v4, rfl⟩ := ll5 hlv
          obtain rfl : b3 = true := hnd 3 (by simp)
          obtain rfl : b4 = false := hbk
          replace h : PuS (fun W => W.heap[X]? = some (.cells (smC x).toArray 43 (0, 0))) (fun W => DoS w0 Wd R vb vk bks S3 g2 vp2 vpk3 vmd2 vbt2 vmk2 X x W) (fun W => ∃ v9, DoS w0 Wd R vb vk bks { S3 with bts := S3.bts ++ [batchP x.t] } g2 vp2 vpk3 vmd2 v9 vmk2 X x W) w0.heap.size 9 (.string (batchP x.t)) (.string (batchP x.t)) vbt2 S3.bts.length (strC S3.bts) b0 b1 b2 true false (v0) (v1) (v2) (v3) W := h
          clear hnd
          have HST := Lib.hid h
          obtain rfl : b2 = true := by { cases b2 with | true => rfl | false => exact absurd (h.n1 rfl) (by decide) }; obtain rfl : b1 = true := by { cases b1 with | true => rfl | false => exact absurd (h.nY rfl) (by decide) }; obtain rfl : b0 = true := by { cases b0 with | true => rfl | false => exact absurd (h.n0 rfl) (by decide) }; obtain ⟨Wb, p0, p1, p2, p3⟩ := h.m rfl rfl; obtain ⟨a9, c9, e9⟩ := row_slice p3; subst e9; obtain ⟨q1, q2, q3⟩ := p0.appBt p1 p3 p2; have c5 := blk_cell (o := 5) q1 rfl; have f5 := blk_free (o := 5) q1; have cl := blk_lt q1; have hm := h.fin (p := ⟨Wd, 5, none⟩) (blk_set_other h.p p0.ne) ⟨_, q3⟩ (by simp); clear q1 q2 q3 p0 p1 p2 p3
          intro K Q hK
          simp only [putE, updAll, Act.put, sl1, sl2, sl3, sl4] at hK ⊢
          go_wp2_with fail
          all_goals (first | exact hK _ hm | exact hm)
         all_goals
          intro bsE vsE W hlb hlv hnd h
          obtain ⟨b0, b1, b2, b3, b4, rfl⟩ := ll5 hlb
          obtain ⟨v0, v1, v2, v3, v4, rfl⟩ := ll5 hlv
          replace h : PuS (fun W => W.heap[X]? = some (.cells (smC x).toArray 43 (0, 0))) (fun W => DoS w0 Wd R vb vk bks S3 g2 vp2 vpk3 vmd2 vbt2 vmk2 X x W) (fun W => ∃ v9, DoS w0 Wd R vb vk bks { S3 with bts := S3.bts ++ [batchP x.t] } g2 vp2 vpk3 vmd2 v9 vmk2 X x W) w0.heap.size 9 (.string (batchP x.t)) (.string (batchP x.t)) vbt2 S3.bts.length (strC S3.bts) b0 b1 b2 b3 b4 (v0) (v1) (v2) (v3) W := h
          clear hnd
          have HST := Lib.hid h
          have gx := h.p; have x4 := blk_cell (o := 4) gx rfl; have xl := blk_lt gx; clear gx
          intro K Q hK
          simp only [putE, updAll, Act.put, sl1, sl2, sl3, sl4] at hK ⊢
          go_wp2_with (fail)
          all_goals (first | exact hK _ h | exact h)
        case done =>
         intro vsE W hlv h
         obtain ⟨v0, v1, v2, v3, v4, rfl⟩ := ll5 hlv
         replace h : PuS (fun W => W.heap[X]? = some (.cells (smC x).toArray 43 (0, 0))) (fun W => DoS w0 Wd R vb vk bks S3 g2 vp2 vpk3 vmd2 vbt2 vmk2 X x W) (fun W => ∃ v9, DoS w0 Wd R vb vk bks { S3 with bts := S3.bts ++ [batchP x.t] } g2 vp2 vpk3 vmd2 v9 vmk2 X x W) w0.heap.size 9 (.string (batchP x.t)) (.string (batchP x.t)) vbt2 S3.bts.length (strC S3.bts) true true true true true (v0) (v1) (v2) (v3) W := h
         have HST := Lib.hid h
         have HZ := Lib.hid (h.z rfl)
         clear h HST
         simp only [putE, updAll, Act.put, sl1, sl2, sl3, sl4]
         go_upto_region 19 with fail
         obtain ⟨vbt4, hB4⟩ := HZ.out
         have HB4 := Lib.hid hB4
         clear HP1 HP2 HZ hB4
         have HP2 : Hid (∀ W w2 : World, DoS w0 Wd R vb vk bks { S3 with bts := S3.bts ++ [batchP x.t] } g2 vp2 vpk3 vmd2 vbt4 vmk2 X x W → Below W.heap.size W w2 → DoS w0 Wd R vb vk bks { S3 with bts := S3.bts ++ [batchP x.t] } g2 vp2 vpk3 vmd2 vbt4 vmk2 X x w2) := fun W w2 h hb => h.step hb
         refine region_all 14 13 262 [(4, 144), (8, 148), (9, 149), (10, 150), (13, 266)] [(none, []), (none, []), (none, []), (none, []), (some 0, []), (none, []), (none, []), (none, []), (some 1, []), (some 2, [1]), (some 3, [0, 2]), (none, []), (none, []), (some 4, [3])] [(140, (.pointer (some ⟨Wd, 0, none⟩))), (141, (.pointer (some ⟨Wd, 0, none⟩))), (142, (.pointer (some ⟨Wd, 0, none⟩))), (143, (.pointer (some ⟨Wd, 6, none⟩))), (145, (.pointer (some ⟨Wd, 0, none⟩))), (146, (.pointer (some ⟨Wd, 0, none⟩))), (147, (.pointer (some ⟨Wd, 2, none⟩))), (151, (.pointer (some ⟨Wd, 0, none⟩))), (152, (.pointer (some ⟨Wd, 6, none⟩)))] (fun bsE vsE W => PuS (fun _ => True) (fun W => DoS w0 Wd R vb vk bks { S3 with bts := S3.bts ++ [batchP x.t] } g2 vp2 vpk3 vmd2 vbt4 vmk2 X x W) (fun W => ∃ v9, DoS w0 Wd R vb vk bks { S3 with bts := S3.bts ++ [batchP x.t], mds := S3.mds ++ [S3.at_] } g2 vp2 vpk3 vmd2 vbt4 v9 X x W) w0.heap.size 2 (.int .i64 S3.at_) (.int .i64 S3.at_) vmk2 S3.mds.length (S3.mds.map (Value.int .i64)) (bsE.getD 0 false) (bsE.getD 1 false) (bsE.getD 2 false) (bsE.getD 3 false) (bsE.getD 4 false) ((vsE.getD 0 undef)) ((vsE.getD 1 undef)) ((vsE.getD 2 undef)) ((vsE.getD 3 undef)) W) (by kernel_rfl) (by kernel_rfl) rfl rfl (by kernel_rfl) (by rfl) ?h0 ?each ?done
         case h0 =>
          intro vsE hlv
          obtain ⟨v0, v1, v2, v3, v4, rfl⟩ := ll5 hlv
          exact ⟨trivial, (fun _ => HB4.out.step (Below.refl _ _).drew), (fun e => by cases e), (fun e => by cases e), (fun e => by cases e), (fun e => by cases e), (fun e => by cases e), (fun _ => rfl), (fun _ => rfl), (fun _ => rfl), (fun _ => rfl), (HB4.out.step (Below.refl _ _).drew).h.bel.size⟩
         case each =>
          simp only [AllE]
          refine ⟨⟨140, (.pointer (some ⟨Wd, 0, none⟩)), rfl, by kernel_rfl, ?_⟩, ⟨141, (.pointer (some ⟨Wd, 0, none⟩)), rfl, by kernel_rfl, ?_⟩, ⟨142, (.pointer (some ⟨Wd, 0, none⟩)), rfl, by kernel_rfl, ?_⟩, ⟨143, (.pointer (some ⟨Wd, 6, none⟩)), rfl, by kernel_rfl, ?_⟩, Or.inl ⟨144, rfl, ?q4_4⟩, ⟨145, (.pointer (some ⟨Wd, 0, none⟩)), rfl, by kernel_rfl, ?_⟩, ⟨146, (.pointer (some ⟨Wd, 0, none⟩)), rfl, by kernel_rfl, ?_⟩, ⟨147, (.pointer (some ⟨Wd, 2, none⟩)), rfl, by kernel_rfl, ?_⟩, Or.inl ⟨148, rfl, ?q4_8⟩, Or.inl ⟨149, rfl, ?q4_9⟩, Or.inl ⟨150, rfl, ?q4_10⟩, ⟨151, (.pointer (some ⟨Wd, 0, none⟩)), rfl, by kernel_rfl, ?_⟩, ⟨152, (.pointer (some ⟨Wd, 6, none⟩)), rfl, by kernel_rfl, ?_⟩, Or.inr ⟨rfl, ?q4_13⟩, trivial⟩
          case q4_4 =>
           intro bsE vsE W hlb hlv hnd hbk h
           obtain ⟨b0, b1, b2, b3, b4, rfl⟩ := ll5 hlb
           obtain ⟨v0, v1, v2, v3, v4, rfl⟩ := ll5 hlv
           obtain rfl : b0 = false := hbk
           replace h : PuS (fun _ => True) (fun W => DoS w0 Wd R vb vk bks { S3 with bts := S3.bts ++ [batchP x.t] } g2 vp2 vpk3 vmd2 vbt4 vmk2 X x W) (fun W => ∃ v9, DoS w0 Wd R vb vk bks { S3 with bts := S3.bts ++ [batchP x.t], mds := S3.mds ++ [S3.at_] } g2 vp2 vpk3 vmd2 vbt4 v9 X x W) w0.heap.size 2 (.int .i64 S3.at_) (.int .i64 S3.at_) vmk2 S3.mds.length (S3.mds.map (Value.int .i64)) false b1 b2 b3 b4 (v0) (v1) (v2) (v3) W := h
           clear hnd
           have HST := Lib.hid h
           obtain rfl := h.n0 rfl; obtain rfl := h.n2 rfl; obtain ⟨-, -, -, -, -, c6, cl⟩ := (h.a rfl).c
           intro K Q hK
           simp only [putE, updAll, Act.put, sl1, sl2, sl3, sl4] at hK ⊢
           go_wp2_with fail
           all_goals (have hm := h.mk0)
           all_goals (first | exact hK _ _ hm | exact hm)
          case q4_8 =>
           intro bsE vsE W hlb hlv hnd hbk h
           obtain ⟨b0, b1, b2, b3, b4, rfl⟩ := ll5 hlb
           obtain ⟨v0, v1, v2, v3, v4, rfl⟩ := ll5 hlv
           obtain rfl : b1 = false := hbk
           replace h : PuS (fun _ => True) (fun W => DoS w0 Wd R vb vk bks { S3 with bts := S3.bts ++ [batchP x.t] } g2 vp2 vpk3 vmd2 vbt4 vmk2 X x W) (fun W => ∃ v9, DoS w0 Wd R vb vk bks { S3 with bts := S3.bts ++ [batchP x.t], mds := S3.mds ++ [S3.at_] } g2 vp2 vpk3 vmd2 vbt4 v9 X x W) w0.heap.size 2 (.int .i64 S3.at_) (.int .i64 S3.at_) vmk2 S3.mds.length (S3.mds.map (Value.int .i64)) b0 false b2 b3 b4 (v0) (v1) (v2) (v3) W := h
           clear hnd
           have HST := Lib.hid h
           obtain rfl := h.nY rfl; obtain rfl := h.n1 rfl; obtain rfl := h.n2 rfl; have c2 : W.cell? ⟨Wd, 2, none⟩ = some (.int .i64 S3.at_) := (h.a rfl).c.2.1; have cl := blk_lt (h.a rfl).h.blk
           intro K Q hK
           simp only [putE, updAll, Act.put, sl1, sl2, sl3, sl4] at hK ⊢
           go_wp2_with fail
           all_goals (have hm := h.mkY (fun _ _ _ _ => trivial) HP2.out (Below.refl _ _))
           all_goals (first | exact hK _ _ hm | exact hm)
          case q4_9 =>
           intro bsE vsE W hlb hlv hnd hbk h
           obtain ⟨b0, b1, b2, b3, b4, rfl⟩ := ll5 hlb
           obtain ⟨v0, v1, v2, v3, v4, rfl⟩ := ll5 hlv
           obtain rfl : b1 = true := hnd 1 (by simp)
           obtain rfl : b2 = false := hbk
           replace h : PuS (fun _ => True) (fun W => DoS w0 Wd R vb vk bks { S3 with bts := S3.bts ++ [batchP x.t] } g2 vp2 vpk3 vmd2 vbt4 vmk2 X x W) (fun W => ∃ v9, DoS w0 Wd R vb vk bks { S3 with bts := S3.bts ++ [batchP x.t], mds := S3.mds ++ [S3.at_] } g2 vp2 vpk3 vmd2 vbt4 v9 X x W) w0.heap.size 2 (.int .i64 S3.at_) (.int .i64 S3.at_) vmk2 S3.mds.length (S3.mds.map (Value.int .i64)) b0 true false b3 b4 (v0) (v1) (v2) (v3) W := h
           clear hnd
           have HST := Lib.hid h
           obtain rfl := h.n1 rfl; obtain rfl := h.n2 rfl; obtain rfl := h.ry rfl; have hm := h.mk1 (fun _ _ _ _ => trivial) HP2.out
           intro K Q hK
           simp only [putE, updAll, Act.put, sl1, sl2, sl3, sl4] at hK ⊢
           go_wp2_with fail
           all_goals (first | exact hK _ _ hm | exact hm)
          case q4_10 =>
           intro bsE vsE W hlb hlv hnd hbk h
           obtain ⟨b0, b1, b2, b3, b4, rfl⟩ := ll5 hlb
           obtain ⟨v0, v1, v2, v3, v4, rfl⟩ := ll5 hlv
           obtain rfl : b0 = true := hnd 0 (by simp)
           obtain rfl : b2 = true := hnd 2 (by simp)
           obtain rfl : b3 = false := hbk
           replace h : PuS (fun _ => True) (fun W => DoS w0 Wd R vb vk bks { S3 with bts := S3.bts ++ [batchP x.t] } g2 vp2 vpk3 vmd2 vbt4 vmk2 X x W) (fun W => ∃ v9, DoS w0 Wd R vb vk bks { S3 with bts := S3.bts ++ [batchP x.t], mds := S3.mds ++ [S3.at_] } g2 vp2 vpk3 vmd2 vbt4 v9 X x W) w0.heap.size 2 (.int .i64 S3.at_) (.int .i64 S3.at_) vmk2 S3.mds.length (S3.mds.map (Value.int .i64)) true b1 true false b4 (v0) (v1) (v2) (v3) W := h
           clear hnd
           have HST := Lib.hid h
           obtain rfl := h.n2 rfl
           intro K Q hK
           simp only [putE, updAll, Act.put, sl1, sl2, sl3, sl4] at hK ⊢
           exact h.appI (fun W hW => hW.h.tm) (fun W w2 hW hp hg => trivial) (by have := HL9.out.2.1; omega) (.tmp 144) (.tmp 149) rfl rfl rfl hK
          case q4_13 =>
           intro bsE vsE W hlb hlv hnd hbk h
           obtain ⟨b0, b1, b2, b3, b4, rfl⟩ := ll5 hlb
           obtain ⟨v0, v1, v2, v3, v4, rfl⟩ := ll5 hlv
           obtain rfl : b3 = true := hnd 3 (by simp)
           obtain rfl : b4 = false := hbk
           replace h : PuS (fun _ => True) (fun W => DoS w0 Wd R vb vk bks { S3 with bts := S3.bts ++ [batchP x.t] } g2 vp2 vpk3 vmd2 vbt4 vmk2 X x W) (fun W => ∃ v9, DoS w0 Wd R vb vk bks { S3 with bts := S3.bts ++ [batchP x.t], mds := S3.mds ++ [S3.at_] } g2 vp2 vpk3 vmd2 vbt4 v9 X x W) w0.heap.size 2 (.int .i64 S3.at_) (.int .i64 S3.at_) vmk2 S3.mds.length (S3.mds.map (Value.int .i64)) b0 b1 b2 true false (v0) (v1) (v2) (v3) W := h
           clear hnd
           have HST := Lib.hid h
           obtain rfl : b2 = true := by { cases b2 with | true => rfl | false => exact absurd (h.n1 rfl) (by decide) }; obtain rfl : b1 = true := by { cases b1 with | true => rfl | false => exact absurd (h.nY rfl) (by decide) }; obtain rfl : b0 = true := by { cases b0 with | true => rfl | false => exact absurd (h.n0 rfl) (by decide) }; obtain ⟨Wb, p0, p1, p2, p3⟩ := h.m rfl rfl; obtain ⟨a9, c9, e9⟩ := row_slice p3; subst e9; obtain ⟨q1, q2, q3⟩ := p0.appTm p1 p3; have c6 := blk_cell (o := 6) q1 rfl; have f6 := blk_free (o := 6) q1; have cl := blk_lt q1; have hm := h.fin (p := ⟨Wd, 6, none⟩) trivial ⟨_, q3⟩ (by simp); clear q1 q2 q3 p0 p1 p2 p3
           intro K Q hK
           simp only [putE, updAll, Act.put, sl1, sl2, sl3, sl4] at hK ⊢
           go_wp2_with fail
           all_goals (first | exact hK _ hm | exact hm)
          all_goals
           intro bsE vsE W hlb hlv hnd h
           obtain ⟨b0, b1, b2, b3, b4, rfl⟩ := ll5 hlb
           obtain ⟨v0, v1, v2, v3, v4, rfl⟩ := ll5 hlv
           replace h : PuS (fun _ => True) (fun W => DoS w0 Wd R vb vk bks { S3 with bts := S3.bts ++ [batchP x.t] } g2 vp2 vpk3 vmd2 vbt4 vmk2 X x W) (fun W => ∃ v9, DoS w0 Wd R vb vk bks { S3 with bts := S3.bts ++ [batchP x.t], mds := S3.mds ++ [S3.at_] } g2 vp2 vpk3 vmd2 vbt4 v9 X x W) w0.heap.size 2 (.int .i64 S3.at_) (.int .i64 S3.at_) vmk2 S3.mds.length (S3.mds.map (Value.int .i64)) b0 b1 b2 b3 b4 (v0) (v1) (v2) (v3) W := h
           clear hnd
           have HST := Lib.hid h
           skip
           intro K Q hK
           simp only [putE, updAll, Act.put, sl1, sl2, sl3, sl4] at hK ⊢
           go_wp2_with (fail)
           all_goals (first | exact hK _ h | exact h)
         case done =>
          intro vsE W hlv h
          obtain ⟨v0, v1, v2, v3, v4, rfl⟩ := ll5 hlv
          replace h : PuS (fun _ => True) (fun W => DoS w0 Wd R vb vk bks { S3 with bts := S3.bts ++ [batchP x.t] } g2 vp2 vpk3 vmd2 vbt4 vmk2 X x W) (fun W => ∃ v9, DoS w0 Wd R vb vk bks { S3 with bts := S3.bts ++ [batchP x.t], mds := S3.mds ++ [S3.at_] } g2 vp2 vpk3 vmd2 vbt4 v9 X x W) w0.heap.size 2 (.int .i64 S3.at_) (.int .i64 S3.at_) vmk2 S3.mds.length (S3.mds.map (Value.int .i64)) true true true true true (v0) (v1) (v2) (v3) W := h
          have HST := Lib.hid h
          have HZ := Lib.hid (h.z rfl)
          clear h HST
          simp only [putE, updAll, Act.put, sl1, sl2, sl3, sl4]
          obtain ⟨vmk4, hB5⟩ := HZ.out
          have HB5 := Lib.hid hB5
          clear HZ hB5 HP2 HB4
          have HL0 : Hid (S3.mods ++ (List.range 0).map (digN N1) = S3.mods) := by show _ = _; simp
          obtain ⟨N2, hN2⟩ : ∃ N2 : ByteArray, N1 ++ ⟨#[58]⟩ = N2 := ⟨_, rfl⟩
          have hN2s : N2.size ≤ 21 := by rw [← hN2, ba_size1]; have := HN1s.out; show N1.size + 1 ≤ 21; omega
          have hz1 : ¬ 9223372036854775807 < N1.size + (⟨#[58]⟩ : ByteArray).size := by have := HN1s.out; show ¬ 9223372036854775807 < N1.size + 1; omega
          have HN2s := Lib.hid hN2s
          have hn55 : x.n % 5 < 5 := Nat.mod_lt _ (by decide)
          clear hN2s
          go_wp2_with fail
          go_loopw [11] (fun ix wr => ∃ i : Nat, i ≤ x.n % 5 ∧ ix = .int .i64 i ∧ Hid (∃ vmd9, DoS w0 Wd R vb vk bks { S3 with bts := S3.bts ++ [batchP x.t], mds := S3.mds ++ [S3.at_], mods := S3.mods ++ (List.range i).map (digN N1) } g2 vp2 vpk3 vmd9 vbt4 vmk4 X x wr)) (fun ix _ => x.n % 5 - (intOf ix).toNat)
          case atStart => exact ⟨0, Nat.zero_le _, rfl, vmd2, by rw [HL0.out]; exact HB5.out⟩
          case round =>
           obtain ⟨i, hi, rfl, HE6⟩ := hrel
           clear HB5 HL0
           by_cases hc : i < x.n % 5
           ·have d1 : (i : Int) < ((x.n % 5 : Nat) : Int) := by omega
            have d0 : (0 : Int) ≤ i := by omega
            have d5 : (i : Int) < 5 := by omega
            have r1 := fun W => rune1 W (48 + i) (by omega)
            have e1 : ((48 + i : Nat) : Int) = 48 + (i : Int) := by omega
            rw [e1] at r1
            have w1 : IntKind.i64.wrap (48 + (i : Int)) = 48 + (i : Int) := Go.IntWalk.i64_in _ ⟨by omega, by omega⟩
            have w3 : IntKind.i32.wrap (48 + (i : Int)) = 48 + (i : Int) := Go.IntWalk.i32_in _ ⟨by omega, by omega⟩
            have HL7 : Hid (S3.mods ++ (List.range (i + 1)).map (digN N1) = S3.mods ++ (List.range i).map (digN N1) ++ [N2 ++ ch (48 + i)]) := by show _ = _; rw [List.range_succ, List.map_append, ← List.append_assoc, ← hN2]; rfl
            have hl6 : (S3.mods ++ (List.range i).map (digN N1)).length ≤ 20000 := by have := HL9.out.2.2; rw [List.length_append, List.length_map, List.length_range]; omega
            have z2 : ¬ 9223372036854775807 < N2.size + (ch (48 + i)).size := by have := HN2s.out; show ¬ 9223372036854775807 < N2.size + 1; omega
            obtain ⟨vmd6, hB6⟩ := HE6.out
            clear HE6 e1 hc
            generalize S3.mods ++ (List.range i).map (digN N1) = L6 at *
            generalize ch (48 + i) = c9 at *
            have hM6 : wr.ownsRow w0.heap.size 9 1 vmd6 L6.length (strC L6) := hB6.h.md
            obtain ⟨a6, c6, ev6⟩ := row_slice hM6
            subst ev6
            have HM6 := Lib.hid hM6
            have HB6 := Lib.hid hB6
            have HBS := Lib.hid hB6.h.bel.size
            have c4 : wr.cell? ⟨Wd, 4, none⟩ = some (.slice a6 L6.length c6) := blk_cell (o := 4) hB6.h.blk rfl
            have cl := blk_lt hB6.h.blk
            clear hM6 hB6
            obtain ⟨j0, hj0, hy0, hy1, hy2⟩ := info_parts infoS'
            go_wp2_with (at_builtin; go_loud (refine wpList_app _ rfl (.tmp 162) (.tmp 170) 47 rfl w0.heap.size 9 j0 _ 1 16 Tryz.underlying47 hj0 hy0 hy1 hy2 rfl (by decide) _ L6.length (strC L6) rfl (own_step HM6.out bAl) (some ⟨wr.heap.size, 0, none⟩) 1 1 [.string (N2 ++ c9)] rfl rfl new_cellsB (str1 _) (by unfold maxLen; omega) (by omega) (by have := HBS.out; simp; omega) ?_); intro v' w5 hown hgrow hat; obtain ⟨a5, q5, ev5⟩ := row_slice hown; subst ev5; obtain ⟨p1, p2, p3⟩ := (HB6.out.step (bAl (o := .cells #[.string (N2 ++ c9)] 9))).appMd hgrow hown hat; have k4 := blk_cell (o := 4) p1 rfl; have f4 := blk_free (o := 4) p1; have kl := blk_lt p1; have HB7 := Lib.hid p3; clear hown hgrow hat p1 p2 p3)
            exact ⟨⟨i + 1, by omega, by push_cast; rfl, _, by rw [HL7.out]; exact HB7.out⟩, by simp [intOf]; omega⟩
           ·obtain rfl : i = x.n % 5 := by omega
            clear hc
            go_wp2_with fail
            exact bodyPost_ret (v := .bool true) (by simp only [results, Tryz.results15]; go_simp) rfl ⟨by unfold okW; rw [HRS.out, HC9.out, HBZ.out], by obtain ⟨vmd6, hB6⟩ := HE6.out; rw [HFIN.out]; exact ⟨_, _, _, _, _, _, hB6.h⟩⟩
end Go.Proofs.YtmpilgkfbibhlaaGreatDoor
namespace Go.Proofs.YtmpilgkfbibhlaaGreatDoor
open Sx Go.RowKit Mr
set_option maxHeartbeats 8000000 in
set_option maxRecDepth 20000 in
theorem do_enter {w0 w : World} {Wd R : Nat} {vb vk : Value} {bks : List Bk} {S : WdS} (h : WdE w0 Wd R vb vk bks S w) (ho : OkA S.a) (hG : Glob0 w0) (x : Sm) (hx : SmOk x) (ha : 0 ≤ S.at_ ∧ S.at_ ≤ 1000000) (hl : S.packs.length ≤ 1000 ∧ S.mods.length ≤ 10000) (hl2 : S.bts.length ≤ 1000 ∧ S.mds.length ≤ 1000) (hsz : (packW S x).size ≤ 1000000 ∧ (toW S x).size ≤ 1000000 ∧ (modW S x).size ≤ 1000000) (hK9 : x.do_ % 11 = 3 ∨ x.do_ % 11 = 4 ∨ x.do_ % 11 = 5 ∨ x.do_ % 11 = 9 ∨ x.do_ % 11 = 10) :
  Calls Tryz.prog 15 #[.pointer (some ⟨Wd, 0, none⟩), .agg #[.int .u8 (x.do_ : Int), .int .u8 (x.by_ : Int), .int .u8 (x.p : Int), .int .u8 (x.m : Int), .int .u8 (x.t : Int), .int .u16 (x.n : Int), .int .u8 (x.later : Int)]] w fun en w' => en = .returned (.bool (okW S x)) ∧ WdE w0 Wd R vb vk bks (doW S x) w' := by
 obtain ⟨g, vp, vpk, vmd, vbt, vmk, h⟩ := h
 have HK9 := Lib.hid hK9
 clear hK9
 have HO := Lib.hid ho
 have HG := Lib.hid hG
 have HX := Lib.hid hx
 have hlt : x.later < 256 := hx.later
 have hD0 : Hid (DoS w0 Wd R vb vk bks S g vp vpk vmd vbt vmk w.heap.size x (w.alloc (.cells #[.int .u8 (x.do_ : Int), .int .u8 (x.by_ : Int), .int .u8 (x.p : Int), .int .u8 (x.m : Int), .int .u8 (x.t : Int), .int .u16 (x.n : Int), .int .u8 (x.later : Int)] 43))) := ⟨h.step bAl, blk_new w _⟩
 have hq : Int.tmod (x.later : Int) 4 = ((x.later % 4 : Nat) : Int) := by rw [Int.tmod_eq_emod_of_nonneg (by omega)]; rfl
 have hq4 : x.later % 4 < 4 := Nat.mod_lt _ (by decide)
 have hw1 : IntKind.i64.wrap ((x.later % 4 : Nat) : Int) = ((x.later % 4 : Nat) : Int) := Go.IntWalk.i64_in _ ⟨by omega, by omega⟩
 have hw2 : IntKind.i64.wrap (S.at_ + ((x.later % 4 : Nat) : Int)) = S.at_ + ((x.later % 4 : Nat) : Int) := Go.IntWalk.i64_in _ ⟨by omega, by omega⟩
 have hw3 : IntKind.i64.wrap (x.later : Int) = (x.later : Int) := Go.IntWalk.i64_in _ ⟨by omega, by omega⟩
 have HAT : Hid (atW S x = S.at_ + ((x.later % 4 : Nat) : Int)) := rfl
 have HA := Lib.hid ha
 have HL := Lib.hid hl
 have HL3 : Hid (S.bts.length ≤ 1000 ∧ S.mds.length ≤ 1000 ∧ S.mods.length ≤ 10000) := ⟨hl2.1, hl2.2, hl.2⟩
 have HPK : Hid ((packW S x).size ≤ 1000000) := hsz.1
 have HTO := Lib.hid hsz.2.1
 have HMD := Lib.hid hsz.2.2
 clear h ho hG hx ha hl hl2 hsz
 go_enter Tryz.func15, Tryz.ntmps15
 go_upto_region 1 with fail
 generalize w.alloc (.cells #[.int .u8 (x.do_ : Int), .int .u8 (x.by_ : Int), .int .u8 (x.p : Int), .int .u8 (x.m : Int), .int .u8 (x.t : Int), .int .u16 (x.n : Int), .int .u8 (x.later : Int)] 43) = W0 at *
 generalize w.heap.size = X at *
 generalize x.later % 4 = l4 at *
 refine region_all 13 13 262 [(4, 18), (12, 263)] [(none, []), (none, []), (none, []), (none, []), (some 0, []), (none, []), (none, []), (none, []), (none, []), (none, [0]), (none, []), (none, []), (some 1, [0])] [(14, (.pointer (some ⟨Wd, 0, none⟩))), (15, (.pointer (some ⟨Wd, 0, none⟩))), (16, (.pointer (some ⟨Wd, 0, none⟩))), (17, (.pointer (some ⟨Wd, 2, none⟩))), (19, (.pointer (some ⟨X, 6, none⟩))), (20, (.int .u8 (x.later : Int))), (21, (.int .i64 (x.later : Int))), (22, (.int .i64 (l4 : Int))), (23, (.int .i64 (S.at_ + (l4 : Int)))), (24, (.pointer (some ⟨Wd, 0, none⟩))), (25, (.pointer (some ⟨Wd, 2, none⟩)))] (fun bsE vsE W => AtS (fun W => W.heap[X]? = some (.cells (smC x).toArray 43 (0, 0))) (fun W => DoS w0 Wd R vb vk bks S g vp vpk vmd vbt vmk X x W) (fun W => DoS w0 Wd R vb vk bks { S with at_ := atW S x } g vp vpk vmd vbt vmk X x W) (.int .i64 S.at_) (bsE.getD 0 false) (bsE.getD 1 false) ((vsE.getD 0 undef)) W) (by kernel_rfl) (by kernel_rfl) rfl rfl (by kernel_rfl) (by rfl) ?h0 ?each ?done
 case h0 =>
  intro vsE hlv
  obtain ⟨v0, v1, rfl⟩ := ll2 hlv
  exact ⟨(hD0.out.step (Below.refl _ _).drew).b, (fun _ => hD0.out.step (Below.refl _ _).drew), (fun e => by cases e), (fun e => by cases e), (fun _ => rfl)⟩
 case each =>
  simp only [AllE]
  refine ⟨⟨14, (.pointer (some ⟨Wd, 0, none⟩)), rfl, by kernel_rfl, ?_⟩, ⟨15, (.pointer (some ⟨Wd, 0, none⟩)), rfl, by kernel_rfl, ?_⟩, ⟨16, (.pointer (some ⟨Wd, 0, none⟩)), rfl, by kernel_rfl, ?_⟩, ⟨17, (.pointer (some ⟨Wd, 2, none⟩)), rfl, by kernel_rfl, ?_⟩, Or.inl ⟨18, rfl, ?q7_4⟩, ⟨19, (.pointer (some ⟨X, 6, none⟩)), rfl, by kernel_rfl, ?_⟩, ⟨20, (.int .u8 (x.later : Int)), rfl, by kernel_rfl, ?_⟩, ⟨21, (.int .i64 (x.later : Int)), rfl, by kernel_rfl, ?_⟩, ⟨22, (.int .i64 (l4 : Int)), rfl, by kernel_rfl, ?_⟩, ⟨23, (.int .i64 (S.at_ + (l4 : Int))), rfl, by kernel_rfl, ?q7_9⟩, ⟨24, (.pointer (some ⟨Wd, 0, none⟩)), rfl, by kernel_rfl, ?_⟩, ⟨25, (.pointer (some ⟨Wd, 2, none⟩)), rfl, by kernel_rfl, ?_⟩, Or.inr ⟨rfl, ?q7_12⟩, trivial⟩
  case q7_4 =>
   intro bsE vsE W hlb hlv hnd hbk h
   obtain ⟨b0, b1, rfl⟩ := ll2 hlb
   obtain ⟨v0, v1, rfl⟩ := ll2 hlv
   obtain rfl : b0 = false := hbk
   replace h : AtS (fun W => W.heap[X]? = some (.cells (smC x).toArray 43 (0, 0))) (fun W => DoS w0 Wd R vb vk bks S g vp vpk vmd vbt vmk X x W) (fun W => DoS w0 Wd R vb vk bks { S with at_ := atW S x } g vp vpk vmd vbt vmk X x W) (.int .i64 S.at_) false b1 (v0) W := h
   clear hnd
   have HST := Lib.hid h
   obtain rfl := h.n rfl; obtain ⟨-, c2, -, -, -, -, cl⟩ := (h.a rfl).c
   intro K Q hK
   simp only [putE, updAll, Act.put, sl1, sl2, sl3, sl4] at hK ⊢
   go_wp2_with fail
   all_goals (have hm : AtS (fun W => W.heap[X]? = some (.cells (smC x).toArray 43 (0, 0))) (fun W => DoS w0 Wd R vb vk bks S g vp vpk vmd vbt vmk X x W) (fun W => DoS w0 Wd R vb vk bks { S with at_ := atW S x } g vp vpk vmd vbt vmk X x W) (.int .i64 S.at_) true false ((.int .i64 S.at_)) W := ⟨h.p, h.a, h.z, (fun _ => rfl), (fun e => by cases e)⟩)
   all_goals (first | exact hK _ _ hm | exact hm)
  case q7_9 =>
   intro bsE vsE W hlb hlv hnd h
   obtain ⟨b0, b1, rfl⟩ := ll2 hlb
   obtain ⟨v0, v1, rfl⟩ := ll2 hlv
   obtain rfl : b0 = true := hnd 0 (by simp)
   replace h : AtS (fun W => W.heap[X]? = some (.cells (smC x).toArray 43 (0, 0))) (fun W => DoS w0 Wd R vb vk bks S g vp vpk vmd vbt vmk X x W) (fun W => DoS w0 Wd R vb vk bks { S with at_ := atW S x } g vp vpk vmd vbt vmk X x W) (.int .i64 S.at_) true b1 (v0) W := h
   clear hnd
   have HST := Lib.hid h
   obtain rfl := h.r rfl
   intro K Q hK
   simp only [putE, updAll, Act.put, sl1, sl2, sl3, sl4] at hK ⊢
   go_wp2_with (fail)
   all_goals (first | exact hK _ h | exact h)
  case q7_12 =>
   intro bsE vsE W hlb hlv hnd hbk h
   obtain ⟨b0, b1, rfl⟩ := ll2 hlb
   obtain ⟨v0, v1, rfl⟩ := ll2 hlv
   obtain rfl : b0 = true := hnd 0 (by simp)
   obtain rfl : b1 = false := hbk
   replace h : AtS (fun W => W.heap[X]? = some (.cells (smC x).toArray 43 (0, 0))) (fun W => DoS w0 Wd R vb vk bks S g vp vpk vmd vbt vmk X x W) (fun W => DoS w0 Wd R vb vk bks { S with at_ := atW S x } g vp vpk vmd vbt vmk X x W) (.int .i64 S.at_) true false (v0) W := h
   clear hnd
   have HST := Lib.hid h
   obtain ⟨-, c2, -, -, -, -, cl⟩ := (h.a rfl).c; have f2 := blk_free (o := 2) (h.a rfl).h.blk; have hd := (h.a rfl).setAt (t := S.at_ + (l4 : Int)); rw [← HAT.out] at hd
   intro K Q hK
   simp only [putE, updAll, Act.put, sl1, sl2, sl3, sl4] at hK ⊢
   go_wp2_with fail
   all_goals (have hm : AtS (fun W => W.heap[X]? = some (.cells (smC x).toArray 43 (0, 0))) (fun W => DoS w0 Wd R vb vk bks S g vp vpk vmd vbt vmk X x W) (fun W => DoS w0 Wd R vb vk bks { S with at_ := atW S x } g vp vpk vmd vbt vmk X x W) (.int .i64 S.at_) true true (v0) (W.setCell ⟨Wd, 2, none⟩ (.int .i64 (S.at_ + (l4 : Int)))) := ⟨by rw [← HAT.out]; exact hd.b, (fun e => by cases e), (fun _ => by rw [← HAT.out]; exact hd), h.r, (fun e => by cases e)⟩)
   all_goals (first | exact hK _ hm | exact hm)
  all_goals
   intro bsE vsE W hlb hlv hnd h
   obtain ⟨b0, b1, rfl⟩ := ll2 hlb
   obtain ⟨v0, v1, rfl⟩ := ll2 hlv
   replace h : AtS (fun W => W.heap[X]? = some (.cells (smC x).toArray 43 (0, 0))) (fun W => DoS w0 Wd R vb vk bks S g vp vpk vmd vbt vmk X x W) (fun W => DoS w0 Wd R vb vk bks { S with at_ := atW S x } g vp vpk vmd vbt vmk X x W) (.int .i64 S.at_) b0 b1 (v0) W := h
   clear hnd
   have HST := Lib.hid h
   have x6 : W.cell? ⟨X, 6, none⟩ = some (.int .u8 (x.later : Int)) := blk_cell h.p rfl; have xl := blk_lt h.p
   intro K Q hK
   simp only [putE, updAll, Act.put, sl1, sl2, sl3, sl4] at hK ⊢
   go_wp2_with (fail)
   all_goals (first | exact hK _ h | exact h)
 case done =>
  intro vsE W hlv h
  obtain ⟨v0, v1, rfl⟩ := ll2 hlv
  replace h : AtS (fun W => W.heap[X]? = some (.cells (smC x).toArray 43 (0, 0))) (fun W => DoS w0 Wd R vb vk bks S g vp vpk vmd vbt vmk X x W) (fun W => DoS w0 Wd R vb vk bks { S with at_ := atW S x } g vp vpk vmd vbt vmk X x W) (.int .i64 S.at_) true true (v0) W := h
  have HST := Lib.hid h
  have HD := Lib.hid (h.z rfl)
  clear h HST hw1 hw2 hw3 hq hq4 hD0 HAT
  simp only [putE, updAll, Act.put, sl1, sl2, sl3, sl4]
  obtain ⟨ap, cp9, evp⟩ := row_slice HD.out.h.pk
  obtain ⟨am, cm9, evm⟩ := row_slice HD.out.h.md
  subst evp
  subst evm
  obtain ⟨c0, c2, c3, c4, c5, c6, cl⟩ := HD.out.c; obtain ⟨x0, x1, x2, x3, x4, x5, x6, xl⟩ := HD.out.sm
  have hby : Int.tmod (x.by_ : Int) 3 = (byW x : Int) := by rw [Int.tmod_eq_emod_of_nonneg (by omega)]; rfl
  have hb3 : byW x < 3 := Nat.mod_lt _ (by decide)
  have hbx := HX.out.by_
  have hbw : IntKind.i64.wrap (byW x : Int) = (byW x : Int) := Go.IntWalk.i64_in _ ⟨by omega, by omega⟩
  have hbv : IntKind.i64.wrap (x.by_ : Int) = (x.by_ : Int) := Go.IntWalk.i64_in _ ⟨by omega, by omega⟩
  go_upto_if 35 with fail
  clear hby hbw hbv
  go_cut [6, 7] from 35 to 70 (fun s6 s7 W => s6 = .string (packW S x) ∧ s7 = .string (toW S x) ∧ Hid (DoS w0 Wd R vb vk bks { S with at_ := atW S x } g vp (.slice ap S.packs.length cp9) (.slice am S.mods.length cm9) vbt vmk X x W))
  case first =>
   by_cases hne : S.packs.length = 0
   ·have h1 : ¬ (S.packs.length : Int) > 0 := by omega
    have HNE := Lib.hid hne
    clear hne
    go_wp2_with fail
    go_meet
    exact ⟨by unfold packW noneT; rw [pick_no HNE.out], by unfold toW noneT; rw [pick_no HNE.out], HD⟩
   ·have h1 : (S.packs.length : Int) > 0 := by omega
    have hn0 : ¬ (S.packs.length : Int) = 0 := by omega
    have hn2 : ¬ S.packs = [] := by rintro e; rw [e] at hne; exact hne rfl
    have hn1 : ((S.packs.length : Int) == 0) = false := by rw [beq_eq_false_iff_ne]; omega
    have hxp := HX.out.p
    have hxt := HX.out.t
    obtain ⟨bk, ebk, hbk, hck⟩ := row_cells (b := 0) (c := cp9) HD.out.h.pk (by exact hne)
    subst ebk
    have gp := hck (x.p % S.packs.length) (.string (packW S x)) (by unfold strC; rw [List.getElem?_map]; exact congrArg _ (pick_yes hne).2)
    have gt := hck (x.t % S.packs.length) (.string (toW S x)) (by unfold strC; rw [List.getElem?_map]; exact congrArg _ (pick_yes hne).2)
    have kq0 : Int.tmod (x.p : Int) (S.packs.length : Int) = ((x.p % S.packs.length : Nat) : Int) := by rw [Int.tmod_eq_emod_of_nonneg (by omega)]; rfl
    have kl0 : ((x.p % S.packs.length : Nat) : Int) < S.packs.length := by have := Nat.mod_lt x.p (show 0 < S.packs.length by omega); omega
    have kz0 : (0 : Int) ≤ ((x.p % S.packs.length : Nat) : Int) := by omega
    have kw0 : IntKind.i64.wrap ((x.p % S.packs.length : Nat) : Int) = ((x.p % S.packs.length : Nat) : Int) := Go.IntWalk.i64_in _ ⟨by omega, by have := HL.out; omega⟩
    have kv0 : IntKind.i64.wrap (x.p : Int) = (x.p : Int) := Go.IntWalk.i64_in _ ⟨by omega, by omega⟩
    have kq1 : Int.tmod (x.t : Int) (S.packs.length : Int) = ((x.t % S.packs.length : Nat) : Int) := by rw [Int.tmod_eq_emod_of_nonneg (by omega)]; rfl
    have kl1 : ((x.t % S.packs.length : Nat) : Int) < S.packs.length := by have := Nat.mod_lt x.t (show 0 < S.packs.length by omega); omega
    have kz1 : (0 : Int) ≤ ((x.t % S.packs.length : Nat) : Int) := by omega
    have kw1 : IntKind.i64.wrap ((x.t % S.packs.length : Nat) : Int) = ((x.t % S.packs.length : Nat) : Int) := Go.IntWalk.i64_in _ ⟨by omega, by have := HL.out; omega⟩
    have kv1 : IntKind.i64.wrap (x.t : Int) = (x.t : Int) := Go.IntWalk.i64_in _ ⟨by omega, by omega⟩
    generalize packW S x = T1 at *
    generalize toW S x = T2 at *
    generalize x.p % S.packs.length = k1 at *
    generalize x.t % S.packs.length = k2 at *
    have HHC := Lib.hid (And.intro gp (And.intro gt hbk))
    clear hck HL HX HO HG HPK HTO HMD
    go_upto_region 5 with fail
    have e1 := fun s : WStep W => cell_step c3 s.2
    have e2 := fun s : WStep W => cell_step x2 s.2
    have e3 := fun s : WStep W => Nat.lt_of_lt_of_le cl s.2.size
    have e4 := fun s : WStep W => Nat.lt_of_lt_of_le xl s.2.size
    have e5 := fun s : WStep W => cell_step gp s.2
    have e6 := fun s : WStep W => Nat.lt_of_lt_of_le hbk s.2.size
    refine wp_region_lock (by kernel_rfl) (by kernel_rfl) ?_
    repeat (first | (refine WQ.skip rfl rfl rfl rfl ?_; simp only [Act.put, sl1, sl2, sl3, sl4]) | ((first | (apply WQ.val; (exact rfl)) | (apply WQ.valg; (exact rfl); (exact rfl); (exact rfl))); (intro w9 hw9; obtain ⟨s9, rfl⟩ := hw9; simp [go_sem, e1, e2, e3, e4, e5, e6, kq0, kl0, kz0, kw0, kv0, kq1, kl1, kz1, kw1, kv1, hn0, hn1, hn2]; first | done | exact rfl); simp only [Act.put, sl1, sl2, sl3, sl4]))
    refine WQ.fin fun W5 hb5 => ?_
    clear e1 e2 e3 e4 e5 e6
    have HD1 := Lib.hid (HD.out.step hb5)
    go_upto_region 6 with fail
    have e1 := fun s : WStep W5 => cell_step c3 (bStep hb5 s.2)
    have e2 := fun s : WStep W5 => cell_step x4 (bStep hb5 s.2)
    have e3 := fun s : WStep W5 => Nat.lt_of_lt_of_le cl (bStep hb5 s.2).size
    have e4 := fun s : WStep W5 => Nat.lt_of_lt_of_le xl (bStep hb5 s.2).size
    have e5 := fun s : WStep W5 => cell_step gt (bStep hb5 s.2)
    have e6 := fun s : WStep W5 => Nat.lt_of_lt_of_le hbk (bStep hb5 s.2).size
    refine wp_region_lock (by kernel_rfl) (by kernel_rfl) ?_
    repeat (first | (refine WQ.skip rfl rfl rfl rfl ?_; simp only [Act.put, sl1, sl2, sl3, sl4]) | ((first | (apply WQ.val; (exact rfl)) | (apply WQ.valg; (exact rfl); (exact rfl); (exact rfl))); (intro w9 hw9; obtain ⟨s9, rfl⟩ := hw9; simp [go_sem, e1, e2, e3, e4, e5, e6, kq0, kl0, kz0, kw0, kv0, kq1, kl1, kz1, kw1, kv1, hn0, hn1, hn2]; first | done | exact rfl); simp only [Act.put, sl1, sl2, sl3, sl4]))
    refine WQ.fin fun W6 hb6 => ?_
    clear e1 e2 e3 e4 e5 e6
    have HD2 := Lib.hid (HD1.out.step hb6)
    go_wp2_with fail
    go_meet
    exact ⟨rfl, rfl, HD2⟩
  case rest =>
   obtain ⟨rfl, rfl, HE⟩ := hcut
   clear c0 c2 c3 c4 c5 c6 cl x0 x1 x2 x3 x4 x5 x6 xl HD
   have HD := HE
   clear HE
   obtain ⟨c0, c2, c3, c4, c5, c6, cl⟩ := HD.out.c; obtain ⟨x0, x1, x2, x3, x4, x5, x6, xl⟩ := HD.out.sm
   go_upto_if 71 with fail
   go_cut [8] from 71 to 86 (fun s8 W => s8 = .string (modW S x) ∧ Hid (DoS w0 Wd R vb vk bks { S with at_ := atW S x } g vp (.slice ap S.packs.length cp9) (.slice am S.mods.length cm9) vbt vmk X x W))
   case first =>
    by_cases hne : S.mods.length = 0
    ·have h1 : ¬ (S.mods.length : Int) > 0 := by omega
     have HNE := Lib.hid hne
     clear hne
     go_wp2_with fail
     go_meet
     exact ⟨by unfold modW none0; rw [pick_no HNE.out], HD⟩
    ·have h1 : (S.mods.length : Int) > 0 := by omega
     have hn0 : ¬ (S.mods.length : Int) = 0 := by omega
     have hn2 : ¬ S.mods = [] := by rintro e; rw [e] at hne; exact hne rfl
     have hn1 : ((S.mods.length : Int) == 0) = false := by rw [beq_eq_false_iff_ne]; omega
     have hxm := HX.out.m
     obtain ⟨bk, ebk, hbk, hck⟩ := row_cells (b := 0) (c := cm9) HD.out.h.md (by exact hne)
     subst ebk
     have gp := hck (x.m % S.mods.length) (.string (modW S x)) (by unfold strC; rw [List.getElem?_map]; exact congrArg _ (pick_yes hne).2)
     have kq0 : Int.tmod (x.m : Int) (S.mods.length : Int) = ((x.m % S.mods.length : Nat) : Int) := by rw [Int.tmod_eq_emod_of_nonneg (by omega)]; rfl
     have kl0 : ((x.m % S.mods.length : Nat) : Int) < S.mods.length := by have := Nat.mod_lt x.m (show 0 < S.mods.length by omega); omega
     have kz0 : (0 : Int) ≤ ((x.m % S.mods.length : Nat) : Int) := by omega
     have kw0 : IntKind.i64.wrap ((x.m % S.mods.length : Nat) : Int) = ((x.m % S.mods.length : Nat) : Int) := Go.IntWalk.i64_in _ ⟨by omega, by have := HL.out; omega⟩
     have kv0 : IntKind.i64.wrap (x.m : Int) = (x.m : Int) := Go.IntWalk.i64_in _ ⟨by omega, by omega⟩
     generalize modW S x = T1 at *
     generalize x.m % S.mods.length = k1 at *
     clear hck HL HX HO HG HPK HTO HMD
     go_upto_region 8 with fail
     have e1 := fun s : WStep wc => cell_step c4 s.2
     have e2 := fun s : WStep wc => cell_step x3 s.2
     have e3 := fun s : WStep wc => Nat.lt_of_lt_of_le cl s.2.size
     have e4 := fun s : WStep wc => Nat.lt_of_lt_of_le xl s.2.size
     have e5 := fun s : WStep wc => cell_step gp s.2
     have e6 := fun s : WStep wc => Nat.lt_of_lt_of_le hbk s.2.size
     refine wp_region_lock (by kernel_rfl) (by kernel_rfl) ?_
     repeat (first | (refine WQ.skip rfl rfl rfl rfl ?_; simp only [Act.put, sl1, sl2, sl3, sl4]) | ((first | (apply WQ.val; (exact rfl)) | (apply WQ.valg; (exact rfl); (exact rfl); (exact rfl))); (intro w9 hw9; obtain ⟨s9, rfl⟩ := hw9; simp [go_sem, e1, e2, e3, e4, e5, e6, kq0, kl0, kz0, kw0, kv0, hn0, hn1, hn2]; first | done | exact rfl); simp only [Act.put, sl1, sl2, sl3, sl4]))
     refine WQ.fin fun W5 hb5 => ?_
     clear e1 e2 e3 e4 e5 e6
     have HD1 := Lib.hid (HD.out.step hb5)
     go_wp2_with fail
     go_meet
     exact ⟨rfl, HD1⟩
   case rest =>
    obtain ⟨rfl, HE⟩ := hcut
    clear c0 c2 c3 c4 c5 c6 cl x0 x1 x2 x3 x4 x5 x6 xl HD
    have HD := HE
    clear HE
    obtain ⟨c0, c2, c3, c4, c5, c6, cl⟩ := HD.out.c; obtain ⟨x0, x1, x2, x3, x4, x5, x6, xl⟩ := HD.out.sm
    obtain ⟨d, hd⟩ : ∃ d, x.do_ % 11 = d := ⟨_, rfl⟩
    have hdo : Int.tmod (x.do_ : Int) 11 = ((d : Nat) : Int) := by rw [Int.tmod_eq_emod_of_nonneg (by omega), ← hd]; rfl
    have hcase : d = 3 ∨ d = 4 ∨ d = 5 ∨ d = 9 ∨ d = 10 := by have h9 := HK9.out; rw [hd] at h9; exact h9
    clear HK9
    rcases hcase with rfl | rfl | rfl | rfl | rfl
    ·have hdw : IntKind.u8.wrap (3 : Int) = 3 := by decide
     have HRS : Hid (resW S x = enterA S.a (byW x) (packW S x) (useW S x)) := by show resW S x = _; unfold resW; rw [if_neg (by omega), if_pos (by omega)]
     have HDO : Hid (doW S x = baseW S x) := by show doW S x = _; unfold doW; rw [if_neg (fun c => by have := c.1; omega)]
     clear hd
     have hxn := HX.out.n
     have hxm := HX.out.m
     have hn1 : IntKind.i64.wrap (x.n : Int) = (x.n : Int) := Go.IntWalk.i64_in _ ⟨by omega, by omega⟩
     have hn2 : IntKind.i64.wrap ((x.n : Int) * 100) = (x.n : Int) * 100 := Go.IntWalk.i64_in _ ⟨by omega, by omega⟩
     have hm1 : IntKind.i64.wrap (x.m : Int) = (x.m : Int) := Go.IntWalk.i64_in _ ⟨by omega, by omega⟩
     have hm2 : IntKind.i64.wrap ((x.m : Int) * 100) = (x.m : Int) * 100 := Go.IntWalk.i64_in _ ⟨by omega, by omega⟩
     go_wp2_with (go_at_call 54; refine (wenter_0 ⟨_, _, _, _, _, _, HD.out.h⟩ HO.out HG.out (byW x : Int) (packW S x) 2 0 ((x.n : Int) * 100) ((x.m : Int) * 100) emp emp (by exact ⟨HPK.out, by first | exact HPK.out | (show (0 : Nat) ≤ 1000000; decide) | decide, by first | (show (0 : Nat) ≤ 1000000; decide) | decide⟩)).mono ?_; rintro e w1 ⟨rfl, HW, -⟩)
     exact bodyPost_ret (v := .bool ((enterA S.a (byW x : Int) (packW S x) (2, atW S x, ((x.n : Int) * 100), ((x.m : Int) * 100), emp, emp)).1 == 0)) (by simp only [results, Tryz.results15]; go_simp) rfl ⟨by unfold okW; rw [HRS.out]; rfl, by rw [HDO.out]; unfold baseW; rw [HRS.out]; exact HW⟩
    ·have hdw : IntKind.u8.wrap (4 : Int) = 4 := by decide
     have HRS : Hid (resW S x = enterA S.a (byW x) (packW S x) (testW S x)) := by show resW S x = _; unfold resW; rw [if_neg (by omega), if_neg (by omega), if_pos (by omega)]
     have HDO : Hid (doW S x = baseW S x) := by show doW S x = _; unfold doW; rw [if_neg (fun c => by have := c.1; omega)]
     clear hd
     have hxn := HX.out.n
     have hn1 : IntKind.i64.wrap (x.n : Int) = (x.n : Int) := Go.IntWalk.i64_in _ ⟨by omega, by omega⟩
     go_wp2_with (go_at_call 54; refine (wenter_0 ⟨_, _, _, _, _, _, HD.out.h⟩ HO.out HG.out (byW x : Int) (packW S x) 3 0 (x.n : Int) 0 emp emp (by exact ⟨HPK.out, by first | exact HPK.out | (show (0 : Nat) ≤ 1000000; decide) | decide, by first | (show (0 : Nat) ≤ 1000000; decide) | decide⟩)).mono ?_; rintro e w1 ⟨rfl, HW, -⟩)
     exact bodyPost_ret (v := .bool ((enterA S.a (byW x : Int) (packW S x) (3, atW S x, (x.n : Int), 0, emp, emp)).1 == 0)) (by simp only [results, Tryz.results15]; go_simp) rfl ⟨by unfold okW; rw [HRS.out]; rfl, by rw [HDO.out]; unfold baseW; rw [HRS.out]; exact HW⟩
    ·have hdw : IntKind.u8.wrap (5 : Int) = 5 := by decide
     have HRS : Hid (resW S x = enterA S.a (byW x) (packW S x) (faultW S x)) := by show resW S x = _; unfold resW; rw [if_neg (by omega), if_neg (by omega), if_neg (by omega), if_pos (by omega)]
     have HDO : Hid (doW S x = baseW S x) := by show doW S x = _; unfold doW; rw [if_neg (fun c => by have := c.1; omega)]
     clear hd
     have hxn := HX.out.n
     have hn1 : IntKind.i64.wrap (x.n : Int) = (x.n : Int) := Go.IntWalk.i64_in _ ⟨by omega, by omega⟩
     have hn3 : Int.tmod (x.n : Int) 12 = ((x.n % 12 : Nat) : Int) := by rw [Int.tmod_eq_emod_of_nonneg (by omega)]; rfl
     have hn4 : IntKind.i64.wrap ((x.n % 12 : Nat) : Int) = ((x.n % 12 : Nat) : Int) := Go.IntWalk.i64_in _ ⟨by omega, by omega⟩
     have hn5 : IntKind.i64.wrap (1 + ((x.n % 12 : Nat) : Int)) = 1 + ((x.n % 12 : Nat) : Int) := Go.IntWalk.i64_in _ ⟨by omega, by omega⟩
     go_wp2_with (go_at_call 54; refine (wenter_0 ⟨_, _, _, _, _, _, HD.out.h⟩ HO.out HG.out (byW x : Int) (packW S x) 4 0 (1 + ((x.n % 12 : Nat) : Int)) 0 emp emp (by exact ⟨HPK.out, by first | exact HPK.out | (show (0 : Nat) ≤ 1000000; decide) | decide, by first | (show (0 : Nat) ≤ 1000000; decide) | decide⟩)).mono ?_; rintro e w1 ⟨rfl, HW, -⟩)
     exact bodyPost_ret (v := .bool ((enterA S.a (byW x : Int) (packW S x) (4, atW S x, (1 + ((x.n % 12 : Nat) : Int)), 0, emp, emp)).1 == 0)) (by simp only [results, Tryz.results15]; go_simp) rfl ⟨by unfold okW; rw [HRS.out]; rfl, by rw [HDO.out]; unfold baseW; rw [HRS.out]; exact HW⟩
    ·have hdw : IntKind.u8.wrap (9 : Int) = 9 := by decide
     have HRS : Hid (resW S x = enterA S.a (byW x) (packW S x) (clearW S x)) := by show resW S x = _; unfold resW; rw [if_neg (by omega), if_neg (by omega), if_neg (by omega), if_neg (by omega), if_neg (by omega), if_neg (by omega), if_pos (by omega)]
     have HDO : Hid (doW S x = baseW S x) := by show doW S x = _; unfold doW; rw [if_neg (fun c => by have := c.1; omega)]
     clear hd
     go_wp2_with (go_at_call 54; refine (wenter_0 ⟨_, _, _, _, _, _, HD.out.h⟩ HO.out HG.out (byW x : Int) (packW S x) 8 0 0 0 fireT emp (by exact ⟨HPK.out, by first | exact HPK.out | (show (0 : Nat) ≤ 1000000; decide) | decide, by first | (show (0 : Nat) ≤ 1000000; decide) | decide⟩)).mono ?_; rintro e w1 ⟨rfl, HW, -⟩)
     exact bodyPost_ret (v := .bool ((enterA S.a (byW x : Int) (packW S x) (8, atW S x, 0, 0, fireT, emp)).1 == 0)) (by simp only [results, Tryz.results15]; go_simp) rfl ⟨by unfold okW; rw [HRS.out]; rfl, by rw [HDO.out]; unfold baseW; rw [HRS.out]; exact HW⟩
    ·have hdw : IntKind.u8.wrap (10 : Int) = 10 := by decide
     have HRS : Hid (resW S x = enterA S.a (byW x) (packW S x) (scrapW S x)) := by show resW S x = _; unfold resW; rw [if_neg (by omega), if_neg (by omega), if_neg (by omega), if_neg (by omega), if_neg (by omega), if_neg (by omega), if_neg (by omega)]
     have HDO : Hid (doW S x = baseW S x) := by show doW S x = _; unfold doW; rw [if_neg (fun c => by have := c.1; omega)]
     clear hd
     go_wp2_with (go_at_call 54; refine (wenter_0 ⟨_, _, _, _, _, _, HD.out.h⟩ HO.out HG.out (byW x : Int) (packW S x) 9 0 0 0 emp emp (by exact ⟨HPK.out, by first | exact HPK.out | (show (0 : Nat) ≤ 1000000; decide) | decide, by first | (show (0 : Nat) ≤ 1000000; decide) | decide⟩)).mono ?_; rintro e w1 ⟨rfl, HW, -⟩)
     exact bodyPost_ret (v := .bool ((enterA S.a (byW x : Int) (packW S x) (9, atW S x, 0, 0, emp, emp)).1 == 0)) (by simp only [results, Tryz.results15]; go_simp) rfl ⟨by unfold okW; rw [HRS.out]; rfl, by rw [HDO.out]; unfold baseW; rw [HRS.out]; exact HW⟩
end Go.Proofs.YtmpilgkfbibhlaaGreatDoor
