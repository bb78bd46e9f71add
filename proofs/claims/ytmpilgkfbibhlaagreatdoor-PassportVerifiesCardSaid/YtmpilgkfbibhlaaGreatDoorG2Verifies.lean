/-
 Rows of numbers that a function has made itself by append; an append of a row that may be nil.
-/
import Derived.Test.YtmpilgkfbibhlaaGreatDoorG1Verifies
import Derived.OwnWalk
import Derived.WalkKit
import Derived.Test.YtmpilgkfbibhlaaGreatDoorRows
import Derived.Shelf.Strconv.Itoa4
import Derived.KernelRfl
import Derived.Laws.IdiomStrings
import Derived.Shelf.Strings.OnBuilder
import Derived.Test.YtmpilgkfbibhlaaGreatDoorG0Verifies
import Derived.Shelf.Strings.Cut
import Derived.Lib.AtoiErrMem
set_option linter.unusedSimpArgs false
set_option linter.unusedVariables false
namespace Go.Proofs.YtmpilgkfbibhlaaGreatDoor
open Go.RowKit
theorem run_append_none {P : Program} (w : World) (t ty e : TypeId) (i : TypeInfo) (ht : P.underlying t = some (.slice e)) (hi : P.info? e = some i) (base : Option Addr) (n cap : Nat) (h : n ≤ cap) (a : Option Addr) (c : Nat) :
  (Builtin.append_ #[t, t] ty #[.slice base n cap, .slice a 0 c]).run P w = .ok (.slice base n cap) w := by
 have hfc : (Builtin.firstCells i.size 0 (.slice a 0 c)).run P w = .ok #[] w := by
  cases a with
  | none => simp [Builtin.firstCells]
  | some a =>
   simp only [Builtin.firstCells, Nat.zero_mul]
   have := run_firstCells_some (P := P) w i.size 0 a 0 c [] (by simp) (fun j x hx => by simp at hx)
   simpa [Builtin.firstCells] using this
 cases base with
 | none => simp [Builtin.append_, run_underlying ht, sizeOf, typeInfo, hi, Builtin.lenOf, h, hfc]
 | some b => simp [Builtin.append_, run_underlying ht, sizeOf, typeInfo, hi, Builtin.lenOf, h, hfc, storeCells]
theorem wpList_append_src {P : Program} {w : World} {ops : Array Oper} {rest : List Oper} {o : Oper} {a : Act} {Q : Exit → Act → World → Prop} (hgd : o.guard = none) (s x : Operand) (t : TypeId)
  (ho : o.op = .call { callee := .builtin .append, args := #[s, x], argTypes := #[t, t] })
  (base : Nat) (e : TypeId) (i : TypeInfo) (z : Value) (size bytes : Nat) (ht : P.underlying t = some (.slice e)) (hi : P.info? e = some i) (hz : i.zero = some z)
  (hsize : i.size = size) (hby : i.bytes = bytes) (hzs : z.cells.size = size) (hsz : 0 < size)
  (v : Value) (n : Nat) (xs : List Value) (hs : a.eval s = v) (hown : w.ownsRow base e size v n xs)
  (ad : Option Addr) (m c : Nat) (news : List Value) (hx : a.eval x = .slice ad m c) (hl : news.length = m * size) (hnews : m ≠ 0 → ∃ b, ad = some b ∧ ∀ j u, news[j]? = some u → w.cell? (b.add j) = some u) (h1 : ∀ u ∈ news, u.oneCell' = true)
  (h63 : n + m ≤ maxLen) (hbytes : (n + m) * bytes ≤ 140737488355328) (hbase : base ≤ w.heap.size)
  (h : ∀ v' w', w'.ownsRow base e size v' (n + m) (xs ++ news) → w.grownBy w' v.ownBlock → wpList P ops Q rest (a.put o.dst v') w') : wpList P ops Q (o :: rest) a w := by
 by_cases hm : m = 0
 ·subst hm
  have hn : news = [] := List.length_eq_zero_iff.1 (by simpa using hl)
  subst hn
  have hv : ∃ b cap, v = .slice b n cap ∧ n ≤ cap := by
   rcases hown.2 with ⟨rfl, rfl⟩ | ⟨g, cap, cur, rfl, -, -, h4, -⟩
   ·exact ⟨none, 0, rfl, Nat.le_refl _⟩
   ·exact ⟨_, cap, rfl, h4⟩
  obtain ⟨b, cap, hv, hc⟩ := hv
  have hr := run_append_none (P := P) w t o.type e i ht hi b n cap hc ad c
  refine Go.wpList_plain hgd fun _ hK => ?_
  unfold Oper.wp execOp
  simp only [ho, resolve, invoke, builtin, Sem.run_bind, Sem.run_pure, Result.andThen_ok, List.map_toArray, List.map_cons, List.map_nil, hs, hx, hv, hr]
  refine hK _ _ (h _ _ ?_ ?_)
  ·rw [← hv, Nat.add_zero, List.append_nil]; exact hown
  ·exact ⟨rfl, rfl, rfl, Nat.le_refl _, fun _ _ _ => rfl⟩
 ·obtain ⟨b, rfl, hb⟩ := hnews hm
  exact wpList_append_own w hgd s x t ho base e i z size bytes ht hi hz hsize hby hzs hsz v n xs hs hown b m c news hx hl hb h1 h63 hbytes hbase fun v' w' k1 k2 _ => h v' w' k1 k2
def flatN (k : IntKind) (xs : List Nat) : List Value := xs.map fun n : Nat => Value.int k (n : Int)
theorem flatN_len (k : IntKind) (xs : List Nat) : (flatN k xs).length = xs.length := by simp [flatN]
theorem flatN_one {k : IntKind} {xs : List Nat} : ∀ u ∈ flatN k xs, u.oneCell' = true := fun u hu => by
 obtain ⟨n, _, rfl⟩ := List.mem_map.1 hu; rfl
theorem flatN_app (k : IntKind) (xs ys : List Nat) : flatN k (xs ++ ys) = flatN k xs ++ flatN k ys := by simp [flatN]
def NOwn (W : World) (B : Nat) (e : TypeId) (k : IntKind) (v : Value) (xs : List Nat) : Prop := W.ownsRow B e 1 v xs.length (flatN k xs)
theorem own_step' {W w2 : World} {B e s : Nat} {v : Value} {n : Nat} {xs : List Value} (h : W.ownsRow B e s v n xs) (hb : Below W.heap.size W w2) : w2.ownsRow B e s v n xs := by
 obtain ⟨h1, h2⟩ := h
 refine ⟨h1, ?_⟩
 rcases h2 with h2 | ⟨g, cap, cur, q1, q2, q3, q4⟩
 ·exact Or.inl h2
 ·exact Or.inr ⟨g, cap, cur, q1, q2, blk_step q3 hb, q4⟩
theorem NOwn.at_ {W : World} {B e : Nat} {k : IntKind} {v : Value} {xs : List Nat} (h : NOwn W B e k v xs) : ∃ a c, v = .slice a xs.length c ∧ ∀ j, j < xs.length → ∃ b off, a = some ⟨b, off, none⟩ ∧ W.cell? ⟨b, off + j, none⟩ = some (.int k (xs.getD j 0 : Nat)) := by
 obtain ⟨h1, h2⟩ := h
 rcases h2 with ⟨rfl, h2⟩ | ⟨g, cap, cur, rfl, q2, q3, q4, q5, q6, q7⟩
 ·exact ⟨none, 0, by rw [h2], fun j hj => by omega⟩
 ·refine ⟨_, _, rfl, fun j hj => ⟨g, 0, rfl, ?_⟩⟩
  have hf : (flatN k xs)[j]? = some (.int k (xs.getD j 0 : Nat)) := by simp [flatN, List.getD_eq_getElem?_getD, List.getElem?_eq_getElem hj]
  rw [← q7, List.getElem?_take_of_lt (by omega)] at hf
  exact blk_cell q3 (by simpa using hf)
theorem own_ge' {W : World} {B e s : Nat} {v : Value} {n : Nat} {xs : List Value} (h : W.ownsRow B e s v n xs) : ∀ k, v.ownBlock = some k → B ≤ k := fun k hk => (h.lt k hk).1
theorem own_diff {W : World} {B e f s s' : Nat} {v u : Value} {n m : Nat} {xs ys : List Value} (hne : e ≠ f) (h : W.ownsRow B e s v n xs) (g : W.ownsRow B f s' u m ys) : v.ownBlock = none ∨ v.ownBlock ≠ u.ownBlock := by
 rcases h.2 with ⟨rfl, _⟩ | ⟨b1, cap, cur, rfl, q2, q3, _⟩
 ·exact Or.inl rfl
 ·right
  rcases g.2 with ⟨rfl, _⟩ | ⟨b2, cap2, cur2, rfl, r2, r3, _⟩
  ·intro e; cases e
  ·intro e
   simp only [Value.ownBlock, Option.some.injEq] at e
   rw [e, r3] at q3
   simp only [Option.some.injEq, Obj.cells.injEq] at q3
   exact hne q3.2.1.symm
theorem info8 : (Tryz.prog.info? 5).map (fun i => (i.zero, i.size, i.bytes)) = some (some (.int .u8 0), 1, 1) := by kernel_rfl
theorem info64 : (Tryz.prog.info? 22).map (fun i => (i.zero, i.size, i.bytes)) = some (some (.int .u64 0), 1, 8) := by kernel_rfl
theorem one_cellsN (W : World) (k : IntKind) (x : Int) (T : TypeId) : ∀ j u, [Value.int k x][j]? = some u → (W.alloc (.cells #[.int k x] T)).cell? ((⟨W.heap.size, 0, none⟩ : Addr).add j) = some u := by
 intro j u hj
 match j, hj with
 | 0, hj => simp at hj; subst hj; simp [Addr.add]
theorem one_oneN (k : IntKind) (x : Int) : ∀ u ∈ [Value.int k x], u.oneCell' = true := by
 intro u hu
 simp at hu
 rw [hu]; rfl
theorem NOwn.more {W : World} {B e : Nat} {k : IntKind} {v : Value} {xs : List Nat} {x : Nat} (h : W.ownsRow B e 1 v (xs.length + 1) (flatN k xs ++ [.int k x])) : NOwn W B e k v (xs ++ [x]) := by
 unfold NOwn
 rw [flatN_app, List.length_append]
 show W.ownsRow B e 1 v (xs.length + 1) (flatN k xs ++ [.int k x])
 exact h
/-! the reference's list of bytes -/
def pad (m : List Nat) (j : Nat) : List Nat := m ++ 1 :: List.replicate j 0
theorem pad_len (m : List Nat) (j : Nat) : (pad m j).length = m.length + 1 + j := by simp [pad]; omega
theorem pad_more (m : List Nat) (j : Nat) : pad m j ++ [0] = pad m (j + 1) := by
 unfold pad
 rw [List.append_assoc, List.cons_append, ← List.replicate_succ']
theorem pad_get (m : List Nat) (j q : Nat) : (pad m j).getD q 0 = bt m q := by
 unfold pad bt
 rw [List.getD_eq_getElem?_getD]
 by_cases h : q < m.length
 ·rw [if_pos h, List.getElem?_append_left h, List.getD_eq_getElem?_getD]
 ·rw [if_neg h, List.getElem?_append_right (by omega)]
  by_cases h2 : q = m.length
  ·rw [if_pos h2, h2]; simp
  ·rw [if_neg h2]
   obtain ⟨r, hr⟩ : ∃ r, q - m.length = r + 1 := ⟨q - m.length - 1, by omega⟩
   rw [hr, List.getElem?_cons_succ]
   rw [List.getElem?_replicate]
   split <;> rfl
theorem not_full {b len q : Nat} (hb : 1 ≤ b) (h1 : len + 1 ≤ q) (h2 : q < b * (len / b + 1)) : q % b ≠ 0 := by
 intro h
 have e := Nat.div_add_mod q b
 rw [h, Nat.add_zero] at e
 have e2 := Nat.div_add_mod len b
 have e3 := Nat.mod_lt len (show b > 0 by omega)
 have h3 : q / b ≤ len / b := by
  have := (Nat.mul_lt_mul_left (show 0 < b by omega)).1 (show b * (q / b) < b * (len / b + 1) by omega)
  omega
 have h4 : b * (q / b) ≤ b * (len / b) := Nat.mul_le_mul_left b h3
 omega
theorem full_ge {b len : Nat} (hb : 1 ≤ b) : len + 1 ≤ b * (len / b + 1) := by
 have e2 := Nat.div_add_mod len b
 have e3 := Nat.mod_lt len (show b > 0 by omega)
 rw [Nat.mul_add]; omega
theorem words_cons (b : Nat) (m : List Nat) : words b m = 1 :: (List.range (m.length / b + 1)).map (wd b m) := by
 unfold words wn
 rw [List.range_succ_eq_map, List.map_cons, List.map_map]
 rfl
end Go.Proofs.YtmpilgkfbibhlaaGreatDoor
namespace Go.Proofs.YtmpilgkfbibhlaaGreatDoor
open Go.RowKit
def BytV (a : Option Addr) (m : List Nat) (W : World) : Prop := m ≠ [] → ∃ b off, a = some ⟨b, off, none⟩ ∧ b < W.heap.size ∧ ∀ k, k < m.length → W.cell? ⟨b, off + k, none⟩ = some (.int .u8 (m.getD k 0 : Nat))
theorem BytV.step {a : Option Addr} {m : List Nat} {W w2 : World} (h : BytV a m W) (hb : Below W.heap.size W w2) : BytV a m w2 := fun hn => by
 obtain ⟨b, off, rfl, h1, h2⟩ := h hn
 exact ⟨b, off, rfl, Nat.lt_of_lt_of_le h1 hb.size, fun k hk => cell_step (h2 k hk) hb⟩
theorem BytV.src {a : Option Addr} {m : List Nat} {W : World} (h : BytV a m W) : m.length ≠ 0 → ∃ b, a = some b ∧ ∀ j u, (flatN .u8 m)[j]? = some u → W.cell? (b.add j) = some u := fun hn => by
 obtain ⟨b, off, rfl, h1, h2⟩ := h (fun e => hn (by rw [e]; rfl))
 refine ⟨_, rfl, fun j u hu => ?_⟩
 have hj : j < m.length := by rw [← flatN_len .u8 m]; exact (List.getElem?_eq_some_iff.1 hu).1
 have e : (flatN .u8 m)[j]? = some (.int .u8 (m.getD j 0 : Nat)) := by simp [flatN, List.getD_eq_getElem?_getD, List.getElem?_eq_getElem hj]
 rw [e] at hu
 obtain rfl := Option.some.inj hu
 rw [show ((⟨b, off, none⟩ : Addr).add j) = ⟨b, off + j, none⟩ by unfold Addr.add; split <;> simp_all]
 exact h2 j hj
theorem NOwn.read {W : World} {B e : Nat} {k : IntKind} {a : Option Addr} {n c : Nat} {xs : List Nat} (h : NOwn W B e k (.slice a n c) xs) {j : Nat} (hj : j < xs.length) : ∃ b off, a = some ⟨b, off, none⟩ ∧ W.cell? ⟨b, off + j, none⟩ = some (.int k (xs.getD j 0 : Nat)) := by
 obtain ⟨a', c', h1, h2⟩ := h.at_
 cases h1
 exact h2 j hj
theorem NOwn.step {W w2 : World} {B e : Nat} {k : IntKind} {v : Value} {xs : List Nat} (h : NOwn W B e k v xs) (hb : Below W.heap.size W w2) : NOwn w2 B e k v xs := own_step' h hb
def lnV : Value → Nat
 | .slice _ n _ => n
 | _ => 0
set_option maxHeartbeats 4000000 in
set_option maxRecDepth 20000 in
theorem List_any (b : Nat) (f : Int) (hb1 : 1 ≤ b) (hb3 : b ≤ 3) (hf : f + 1 = b) (a : Option Addr) (c : Nat) (m : List Nat) (w : World) (hB : Byt m) (hlen : m.length ≤ 2000) (hA : BytV a m w) :
  Calls Tryz.prog 144 #[.int .i64 f, .slice a m.length c] w fun e w' => ∃ v, e = .returned v ∧ NOwn w' w.heap.size 22 .u64 v (words b m) ∧ Below w.heap.size w w' := by
 obtain ⟨i0, hi, hz0, hz1, hz2⟩ := info_parts info8
 obtain ⟨j0, hj', hy0, hy1, hy2⟩ := info_parts info64
 have HA := Lib.hid hA
 clear hA
 have hbl : m.length + 1 ≤ b * (m.length / b + 1) := full_ge hb1
 have hdl : m.length / b ≤ 2000 := Nat.le_trans (Nat.div_le_self _ _) hlen
 have hL : b * (m.length / b + 1) ≤ 6003 := Nat.le_trans (Nat.mul_le_mul hb3 (show m.length / b + 1 ≤ 2001 by omega)) (by decide)
 have hnf : ∀ q, m.length + 1 ≤ q → q < b * (m.length / b + 1) → q % b ≠ 0 := fun q => not_full hb1
 have HW := Lib.hid (words_cons b m)
 generalize hq : m.length / b + 1 = q0 at *
 have hLb : (b * q0) % b = 0 := Nat.mul_mod_right b q0
 have hown : Hid ((w.alloc (.cells #[] 5)).ownsRow w.heap.size 5 1 (.slice (some ⟨w.heap.size, 0, none⟩) 0 0) 0 []) :=
  ⟨rfl, Or.inr ⟨w.heap.size, 0, #[], rfl, Nat.le_refl _, blk_new _ _, by omega, by decide, rfl, rfl⟩⟩
 have hsrc := Lib.hid ((HA.out.step ((Below.refl _ _).alloc (Nat.le_refl _) (.cells #[] 5))).src)
 have hFl : (flatN .u8 m).length = m.length * 1 := by rw [flatN_len]; omega
 have hone := flatN_one (k := .u8) (xs := m)
 have hP0 : Hid (∀ (v : Value) (W : World), W.ownsRow w.heap.size 5 1 v (0 + m.length + 1) ([] ++ flatN .u8 m ++ [.int .u8 1]) → NOwn W w.heap.size 5 .u8 v (pad m 0)) := fun v W h => by
  have h2 : W.ownsRow w.heap.size 5 1 v (m.length + 1) (flatN .u8 m ++ [.int .u8 (1 : Nat)]) := by simpa using h
  exact NOwn.more h2
 generalize flatN .u8 m = FF at *
 go_enter Tryz.func144, Tryz.ntmps144
 go_wp2_with (first | (at_builtin; refine wpList_append_src rfl (.tmp 13) (.tmp 14) 88 rfl (w.heap.size) 5 i0 (.int .u8 0) 1 1 Tryz.underlying88 hi hz0 hz1 hz2 rfl (by decide) _ _ _ rfl hown.out a m.length c FF rfl hFl hsrc.out hone (by unfold maxLen; omega) (by omega) (by simp) ?_; intro v1 w1 hO1 hg1; have kB1 : Below w.heap.size w w1 := ((Below.refl _ _).alloc (Nat.le_refl _) (.cells #[] 5)).grown hg1 (by simp) (own_ge' hown.out)) | (at_builtin; refine wpList_append_own _ rfl (.tmp 15) (.tmp 16) 88 rfl (w.heap.size) 5 i0 (.int .u8 0) 1 1 Tryz.underlying88 hi hz0 hz1 hz2 rfl (by decide) _ _ _ rfl (World.ownsRow.alloc hO1 _) ⟨w1.heap.size, 0, none⟩ 1 1 [.int .u8 1] rfl rfl (one_cellsN _ _ _ _) (one_oneN _ _) (by unfold maxLen; omega) (by omega) (by have := kB1.size; simp; omega) ?_; intro v2 w2 hO2 hg2 hnil2))
 have HO2 := Lib.hid (hP0.out _ _ hO2)
 have kB2 : Below w.heap.size w w2 := (kB1.alloc kB1.size (.cells #[.int .u8 1] 5)).grown hg2 (by have := kB1.size; simp; omega) (own_ge' hO1)
 clear hO1 hO2 hg1 hg2 hnil2 hP0 hsrc hone hFl hown kB1
 have hbz : (b : Int) ≠ 0 := by omega
 go_loopw [6] (fun v wr => ∃ j : Nat, m.length + 1 + j ≤ b * q0 ∧ Hid (NOwn wr w.heap.size 5 .u8 v (pad m j)) ∧ Below w.heap.size w wr) (fun v _ => b * q0 - lnV v)
 case atStart => exact ⟨0, by omega, HO2, kB2⟩
 case round =>
  obtain ⟨j, hj1, HO, kB⟩ := hrel
  obtain ⟨a', c', rfl, hc'⟩ := HO.out.at_
  have hpl := pad_len m j
  have HM := Lib.hid (pad_more m j)
  clear hc'
  by_cases hfull : m.length + 1 + j = b * q0
  ·have hmod : ((pad m j).length : Int) % b = 0 := by rw [hpl, hfull]; exact_mod_cast hLb
   have hget : ∀ q, (pad m j).getD q 0 = bt m q := pad_get m j
   have hpl2 := Lib.hid (show (pad m j).length = b * q0 by omega)
   clear hpl hj1 hfull hbl hnf HM
   generalize hpj : pad m j = PJ at *
   go_wp2_with fail
   clear hmod
   go_loopw [7, 8, 9, 10] (fun v i _ _ wr2 => ∃ t : Nat, t ≤ q0 ∧ i = .int .i64 (b * t : Nat) ∧ Hid (NOwn wr2 w.heap.size 22 .u64 v (1 :: (List.range t).map (wd b m))) ∧ Hid (NOwn wr2 w.heap.size 5 .u8 (.slice a' PJ.length c') PJ) ∧ Below w.heap.size w wr2) (fun _ i _ _ _ => b * q0 - (intOf i).toNat)
   case atStart => exact ⟨0, Nat.zero_le _, by simp, ⟨rfl, Or.inr ⟨wr.heap.size, 1, #[.int .u64 1], rfl, kB.size, blk_new _ _, Nat.le_refl _, by decide, rfl, rfl⟩⟩, HO.out.step ((Below.refl _ _).alloc (Nat.le_refl _) _), kB.alloc kB.size _⟩
   case round =>
    obtain ⟨t, ht, rfl, HV, HP, kC⟩ := hrel
    have hpl3 := hpl2.out
    by_cases hlt : t < q0
    ·have hbt : b * t + b ≤ b * q0 := by rw [← Nat.mul_succ]; exact Nat.mul_le_mul_left b hlt
     have hlt' : ((b * t : Nat) : Int) < (PJ.length : Int) := by omega
     have hb2 : b * t ≤ 6003 := by omega
     have hPle : PJ.length ≤ 6003 := by omega
     have hnx2 : ∀ j, wdTo b m t (j + 1) = 256 * wdTo b m t j + bt m (b * t + j) := fun j => by rw [Nat.mul_comm b t]; rfl
     have hend : wdTo b m t b = wd b m t := rfl
     have HR := Lib.hid (show b * t + b = b * (t + 1) from (Nat.mul_succ b t).symm)
     have HT := Lib.hid (List.range_succ (n := t))
     generalize b * t = r at *
     clear hpl3
     go_wp2_with fail
     go_loopw [9, 10] (fun v p w2 => ∃ j : Nat, j ≤ b ∧ v = .int .u64 (wdTo b m t j) ∧ p = .int .i64 j ∧ w2 = wr) (fun _ p _ => b - (intOf p).toNat)
     case atStart => exact ⟨0, Nat.zero_le _, rfl, rfl, rfl⟩
     case round =>
      obtain ⟨j, hj, rfl, rfl, rfl⟩ := hrel
      by_cases hjb : j < b
      ·have hs := wdTo_small hB hb3 hjb t
       have hn2 := hnx2 j
       have hpl4 := hpl2.out
       obtain ⟨bm, om, rfl, hcm⟩ := HP.out.read (j := r + j) (by omega)
       rw [hget] at hcm
       have hbl2 := bt_lt hB (r + j)
       have e3 : ((r : Int) + j) = ((r + j : Nat) : Int) := by push_cast; rfl
       generalize bt m (r + j) = cc at *
       generalize hv : wdTo b m t j = v at *
       generalize hv2 : wdTo b m t (j + 1) = v2 at *
       have hrj : r + j < PJ.length := by omega
       generalize r + j = rj at *
       clear hpl4
       go_wp2_with fail
       go_roundw
       case rel => exact ⟨j + 1, by omega, congrArg _ (by omega), congrArg _ (by omega), by first | trivial | rfl⟩
       case measure => simp [intOf]; omega
      ·obtain rfl : j = b := by omega
       rw [hend]
       have hvl : (1 :: (List.range t).map (wd j m)).length = t + 1 := by simp
       have hap : (1 :: (List.range t).map (wd j m)) ++ [wd j m t] = 1 :: (List.range (t + 1)).map (wd j m) := by rw [HT.out, List.map_append, List.cons_append]; rfl
       have hn3 : (1 :: (List.range t).map (wd j m)).length ≤ 10000 := by omega
       clear hvl hnx2 hget hend
       generalize (1 :: (List.range t).map (wd j m)) = VS at *
       generalize wd j m t = vv at *
       go_wp2_with (at_builtin; refine wpList_append_own _ rfl (.tmp 49) (.tmp 51) 83 rfl (w.heap.size) 22 j0 (.int .u64 0) 1 8 Tryz.underlying83 hj' hy0 hy1 hy2 rfl (by decide) _ _ _ rfl (World.ownsRow.alloc HV.out _) ⟨wr.heap.size, 0, none⟩ 1 1 [.int .u64 vv] rfl rfl (one_cellsN _ _ _ _) (one_oneN _ _) (by unfold maxLen; omega) (by omega) (by have := kC.size; simp; omega) ?_; intro v3 w3 hO3 hg3 hnil3)
       have HO3 := Lib.hid (NOwn.more hO3)
       rw [hap] at HO3
       have HP3 : Hid (NOwn w3 w.heap.size 5 .u8 (.slice a' PJ.length c') PJ) := World.ownsRow.kept (World.ownsRow.alloc HP.out _) hg3 (own_diff (by decide) HP.out HV.out)
       have kB3 : Below w.heap.size w w3 := (kC.alloc kC.size _).grown hg3 (by have := kC.size; simp; omega) (own_ge' HV.out)
       go_roundw
       case rel => exact ⟨t + 1, by omega, by rw [← HR.out]; go_num, HO3, HP3, kB3⟩
       case measure => simp [intOf]; omega
    ·obtain rfl : t = q0 := by omega
     have hge : (PJ.length : Int) = ((b * t : Nat) : Int) := by omega
     clear hpl3
     generalize b * t = r at *
     go_wp2_with fail
     go_ret
     exact ⟨_, rfl, by rw [HW.out]; exact HV.out, kC⟩
  ·have hmod : ((pad m j).length : Int) % b ≠ 0 := by
    rw [hpl]
    have := hnf (m.length + 1 + j) (by omega) (by omega)
    exact_mod_cast this
   have hle : (pad m j).length ≤ 10000 := by omega
   have hpl2 := Lib.hid hpl
   clear hpl
   generalize hpj : pad m j = PJ at *
   go_wp2_with (at_builtin; refine wpList_append_own _ rfl (.tmp 23) (.tmp 24) 88 rfl (w.heap.size) 5 i0 (.int .u8 0) 1 1 Tryz.underlying88 hi hz0 hz1 hz2 rfl (by decide) _ _ _ rfl (World.ownsRow.alloc HO.out _) ⟨wr.heap.size, 0, none⟩ 1 1 [.int .u8 0] rfl rfl (one_cellsN _ _ _ _) (one_oneN _ _) (by unfold maxLen; omega) (by omega) (by have := kB.size; simp; omega) ?_; intro v3 w3 hO3 hg3 hnil3)
   have HO3 := Lib.hid (NOwn.more hO3)
   rw [HM.out] at HO3
   have kB3 : Below w.heap.size w w3 := (kB.alloc kB.size _).grown hg3 (by have := kB.size; simp; omega) (own_ge' HO.out)
   have hpl3 := hpl2.out
   go_roundw
   case rel => exact ⟨j + 1, by omega, HO3, kB3⟩
   case measure =>
    obtain ⟨a3, c3, e3, -⟩ := HO3.out.at_
    rw [e3, pad_len]
    show _ - (m.length + 1 + (j + 1)) < _ - PJ.length
    omega
end Go.Proofs.YtmpilgkfbibhlaaGreatDoor
namespace Go.Proofs.YtmpilgkfbibhlaaGreatDoor
open Go.RowKit
def prim : Nat → Nat
 | 0 => 257
 | 1 => 65537
 | _ => 2147483647
theorem prim_bd (i : Nat) : 257 ≤ prim i ∧ prim i < 2147483648 := by
 unfold prim
 split <;> decide
def fi (n : Int) : Option Nat := if 0 ≤ n ∧ n < 3 then some n.toNat else none
theorem fi_cases (n : Int) : ((n < 0 ∨ 3 ≤ n) ∧ fi n = none) ∨ ∃ i : Nat, i < 3 ∧ n = i ∧ fi n = some i := by
 unfold fi
 by_cases h : 0 ≤ n ∧ n < 3
 ·right
  rw [if_pos h]
  exact ⟨n.toNat, by omega, by omega, rfl⟩
 ·left
  rw [if_neg h]
  exact ⟨by omega, rfl⟩
def digR (n : Int) (x : Nat) (m : List Nat) : Nat × Int := match fi n with
 | none => (0, 2)
 | some i => if 1000 < m.length then (0, 7) else if x < 1 ∨ prim i ≤ x then (0, 3) else (dig (prim i) (i + 1) x m, 0)
def tagR (n : Int) (x pad : Nat) (m : List Nat) : Nat × Int := match fi n with
 | none => (0, 2)
 | some i => if (digR n x m).2 ≠ 0 then (0, (digR n x m).2) else if prim i ≤ pad then (0, 3) else (((digR n x m).1 + pad) % prim i, 0)
theorem fieldOf_none (n : Int) (hn : n < 0 ∨ 3 ≤ n) (w : World) : Calls Tryz.prog 86 #[.int .i64 n] w fun e w' => e = .returned (.pointer none) ∧ Below w.heap.size w w' := by
 rcases hn with hn | hn
 all_goals
  go_enter Tryz.func86, Tryz.ntmps86
  go_wp2
  go_ret
  exact ⟨rfl, (by repeat' (first | exact Below.refl _ _ | assumption | apply bDrewN | apply bDrew | apply bAlloc | (refine bSet ?_ ?_ _) | (refine bStep ?_ (by assumption)) | omega | (simp <;> omega)))⟩
theorem fieldOf_some (i : Nat) (hi : i < 3) (w : World) : Calls Tryz.prog 86 #[.int .i64 i] w fun e w' => ∃ B off, e = .returned (.pointer (some ⟨B, off, none⟩)) ∧ w.heap.size ≤ B ∧ B < w'.heap.size ∧
  w'.cell? ⟨B, off, none⟩ = some (.int .u64 (prim i)) ∧ w'.cell? ⟨B, off + 1, none⟩ = some (.int .i64 (i + 1 : Nat)) ∧ Below w.heap.size w w' := by
 have hc : i = 0 ∨ i = 1 ∨ i = 2 := by omega
 rcases hc with rfl | rfl | rfl
 all_goals
  go_enter Tryz.func86, Tryz.ntmps86
  go_wp2
  go_ret
  refine ⟨_, _, rfl, Nat.le_refl _, by simp, ?_, ?_, (by repeat' (first | exact Below.refl _ _ | assumption | apply bDrewN | apply bDrew | apply bAlloc | (refine bSet ?_ ?_ _) | (refine bStep ?_ (by assumption)) | omega | (simp <;> omega)))⟩ <;> (first | (go_simp; done) | (go_simp; rfl) | trace_state)
theorem Prime_any (n : Int) (w : World) : Calls Tryz.prog 108 #[.int .i64 n] w fun e w' => e = .returned (.int .u64 (match fi n with | none => 0 | some i => prim i : Nat)) ∧ w = w' := by
 rcases fi_cases n with ⟨hn, hf⟩ | ⟨i, hi, rfl, hf⟩
 ·rw [hf]
  have h0 : n ≠ 0 := by omega
  have h1 : n ≠ 1 := by omega
  have h2 : n ≠ 2 := by omega
  go_enter Tryz.func108, Tryz.ntmps108
  go_wp2
  go_ret
  exact ⟨rfl, rfl⟩
 ·rw [hf]
  have hc : i = 0 ∨ i = 1 ∨ i = 2 := by omega
  rcases hc with rfl | rfl | rfl
  all_goals
   go_enter Tryz.func108, Tryz.ntmps108
   go_wp2
   go_ret
   exact ⟨rfl, rfl⟩
end Go.Proofs.YtmpilgkfbibhlaaGreatDoor
namespace Go.Proofs.YtmpilgkfbibhlaaGreatDoor
namespace Sx
open Go.RowKit
def powN : String := ((Rows.passportVerifiesRow.laid[2]?).map (·.1)).getD ""
def rngN : String := ((Rows.passportVerifiesRow.laid[3]?).map (·.1)).getD ""
def synN : String := ((Rows.passportVerifiesRow.laid[4]?).map (·.1)).getD ""
def maxN : String := (Rows.passportVerifiesRow.named[0]?).getD ""
noncomputable def powG : Nat := (Tryz.prog.globalNamed powN).getD 0
noncomputable def rngG : Nat := (Tryz.prog.globalNamed rngN).getD 0
noncomputable def synG : Nat := (Tryz.prog.globalNamed synN).getD 0
noncomputable def maxG : Nat := (Tryz.prog.globalNamed maxN).getD 0
theorem powG_is : Tryz.prog.globalNamed powN = some powG := by kernel_rfl
theorem rngG_is : Tryz.prog.globalNamed rngN = some rngG := by kernel_rfl
theorem synG_is : Tryz.prog.globalNamed synN = some synG := by kernel_rfl
noncomputable def Gs : List Nat := [powG, rngG, synG, maxG]
def ErrAt (w : World) (n : String) : Prop := ∃ t v, w.var? Tryz.prog n = some #[.iface t v]
def MaxAt (w : World) : Prop := ∃ m, w.cell? ⟨maxG, 0, none⟩ = some (.int .i64 m)
def GlobP (w : World) : Prop := Lib.TabIs Tryz.prog w powN .u64 Lib.pow10Tab ∧ ErrAt w rngN ∧ ErrAt w synN ∧ MaxAt w
theorem GlobP.tab {w : World} (h : GlobP w) : Lib.TabIs Tryz.prog w powN .u64 Lib.pow10Tab := h.1
theorem GlobP.max {w : World} (h : GlobP w) : MaxAt w := h.2.2.2
theorem var_kept {w w' : World} {n : String} {g : Nat} {cs : Array Value} (hg : Tryz.prog.globalNamed n = some g) (h : w.var? Tryz.prog n = some cs) (k : w'.heap[g]? = w.heap[g]?) : w'.var? Tryz.prog n = some cs := by
 unfold World.var? at h ⊢
 rw [hg] at h ⊢
 simp only [Option.bind_some] at h ⊢
 rw [k]; exact h
theorem var_lt {w : World} {n : String} {g : Nat} {cs : Array Value} (hg : Tryz.prog.globalNamed n = some g) (h : w.var? Tryz.prog n = some cs) : g < w.heap.size := by
 unfold World.var? at h
 rw [hg] at h
 simp only [Option.bind_some] at h
 rcases Nat.lt_or_ge g w.heap.size with h1 | h1
 ·exact h1
 ·rw [Array.getElem?_eq_none h1] at h; cases h
theorem GlobP.kept {w w' : World} (h : GlobP w) (k : ∀ g ∈ Gs, w'.heap[g]? = w.heap[g]?) : GlobP w' := by
 obtain ⟨h1, ⟨t2, v2, h2⟩, ⟨t3, v3, h3⟩, ⟨m, h4⟩⟩ := h
 have k1 := k powG (by unfold Gs; simp)
 have k2 := k rngG (by unfold Gs; simp)
 have k3 := k synG (by unfold Gs; simp)
 have k4 := k maxG (by unfold Gs; simp)
 exact ⟨var_kept powG_is h1 k1, ⟨t2, v2, var_kept rngG_is h2 k2⟩, ⟨t3, v3, var_kept synG_is h3 k3⟩, ⟨m, (World.cell?_of_block (w := w) (a := ⟨maxG, 0, none⟩) k4).trans h4⟩⟩
def GlobW (M : Nat → Prop) (w : World) : Prop := GlobP w ∧ ∀ g ∈ Gs, ¬ M g ∧ g < w.heap.size
def Glob0 (w : World) : Prop := GlobW (fun k => w.heap.size ≤ k) w
theorem glob0_of {w : World} (h : GlobP w) : Glob0 w := ⟨h, fun g hg => by
 obtain ⟨h1, ⟨t2, v2, h2⟩, ⟨t3, v3, h3⟩, ⟨m, h4⟩⟩ := h
 have hlt : g < w.heap.size := by
  unfold Gs at hg
  simp only [List.mem_cons, List.not_mem_nil, or_false] at hg
  rcases hg with rfl | rfl | rfl | rfl
  ·exact var_lt powG_is h1
  ·exact var_lt rngG_is h2
  ·exact var_lt synG_is h3
  ·exact World.block_lt_of_cell? _ _ h4
 exact ⟨by omega, hlt⟩⟩
theorem gstep {w w' : World} (h : Glob0 w) (hb : Below w.heap.size w w') : Glob0 w' :=
 ⟨h.1.kept fun g hg => hb.block g (h.2 g hg).2, fun g hg => ⟨by have := (h.2 g hg).2; have := hb.size; omega, Nat.lt_of_lt_of_le (h.2 g hg).2 hb.size⟩⟩
end Sx
end Go.Proofs.YtmpilgkfbibhlaaGreatDoor
namespace Go.Proofs.YtmpilgkfbibhlaaGreatDoor
open Go.RowKit
def okc (c : UInt8) : Bool := decide (97 ≤ c.toNat ∧ c.toNat ≤ 122 ∨ 48 ≤ c.toNat ∧ c.toNat ≤ 57)
def nameB (s : ByteArray) : Bool := decide (1 ≤ s.size ∧ s.size ≤ 20) && s.data.toList.all okc
set_option maxHeartbeats 1000000 in
set_option maxRecDepth 20000 in
theorem isName_any (s : ByteArray) (w : World) (hs : s.size ≤ 9223372036854775807) : Calls Tryz.prog 39 #[.string s] w fun e w' => e = .returned (.bool (nameB s)) ∧ Below w.heap.size w w' := by
 by_cases h1 : 1 ≤ s.size ∧ s.size ≤ 20
 ·obtain ⟨h1, h2⟩ := h1
  have h1' : 1 ≤ (s.size : Int) := by omega
  have h2' : (s.size : Int) ≤ 20 := by omega
  have hnb : nameB s = s.data.toList.all okc := by unfold nameB; rw [decide_eq_true ⟨h1, h2⟩, Bool.true_and]
  obtain ⟨R, hR⟩ : ∃ R, s.data.toList.all okc = R := ⟨_, rfl⟩
  rw [hnb, hR]
  have HR := Lib.hid hR
  clear hR
  have hconv := run_bytes_of_string (P := Tryz.prog) w 9 88 5 s Tryz.underlying9 Tryz.underlying88 Tryz.underlying5
  generalize hcap : grownCap w s.size 0 5 = cap at *
  have hcell : Hid (∀ j (hj : j < s.data.size), (w.alloc (.cells (bytesRow s cap) 5 ((bytesRow s cap).size, (bytesRow s cap).size + 1))).cell? ⟨w.heap.size, j, none⟩ = some (.int .u8 (s.data[j].toNat : Int))) := fun j hj => by
   rw [World.cell?_alloc_mark, bytesRow_at _ _ _ hj]
  generalize bytesRow s cap = C at *
  have hsz : s.size = s.data.size := rfl
  have hlen : s.data.toList.length = s.size := by rw [hsz]; exact Array.length_toList
  have HSZ := Lib.hid hsz
  have HLEN := Lib.hid hlen
  clear hnb hcap hsz hlen
  go_enter Tryz.func39, Tryz.ntmps39
  go_wp2
  go_loopw [4, 16] (fun _ i wr => ∃ k : Nat, k ≤ s.size ∧ i = .int .i64 k ∧ Hid ((s.data.toList.take k).all okc = true) ∧ wr = (w.alloc (.cells C 5 (C.size, C.size + 1))).drew) (fun _ i _ => s.size - (intOf i).toNat)
  case atStart => exact ⟨0, Nat.zero_le _, rfl, by simp [Hid], rfl⟩
  case round =>
   obtain ⟨k, hk, rfl, HQ, rfl⟩ := hrel
   by_cases hlt : k < s.size
   ·have hc := hcell.out k hlt
    have hlt2 : k < s.data.toList.length := by rw [HLEN.out]; exact hlt
    have hget : s.data.toList[k] = s.data[k] := Array.getElem_toList _
    have HS := Lib.hid (show okc s.data[k] = true → (s.data.toList.take (k + 1)).all okc = true from fun h => by
     rw [List.take_succ_eq_append_getElem hlt2, List.all_append, HQ.out, hget]
     simp [h])
    have HN := Lib.hid (show okc s.data[k] = false → s.data.toList.all okc = false from fun h => by
     rw [List.all_eq_false]
     exact ⟨s.data[k], by rw [← hget]; exact List.getElem_mem _, by simp [h]⟩)
    have hb : s.data[k].toNat < 256 := s.data[k].toNat_lt
    have hoc : okc s.data[k] = decide (97 ≤ s.data[k].toNat ∧ s.data[k].toNat ≤ 122 ∨ 48 ≤ s.data[k].toNat ∧ s.data[k].toNat ≤ 57) := rfl
    rw [hoc] at HS HN
    generalize s.data[k].toNat = c at *
    clear hoc hget HQ
    by_cases hok : 97 ≤ c ∧ c ≤ 122 ∨ 48 ≤ c ∧ c ≤ 57
    ·have hnext := HS.out (decide_eq_true hok)
     have hok' : (97 ≤ (c : Int) ∧ (c : Int) ≤ 122) ∨ ((c : Int) < 97 ∧ 48 ≤ (c : Int) ∧ (c : Int) ≤ 57) := by omega
     have HX := Lib.hid hnext
     clear hok HS HN hnext
     rcases hok' with ⟨q1, q2⟩ | ⟨q0, q1, q2⟩
     all_goals
      go_wp2_with fail
      go_roundw
      case rel => exact ⟨k + 1, by omega, by go_num, HX, by first | trivial | rfl⟩
      case measure => simp [intOf]; omega
    ·have hn := HN.out (decide_eq_false hok)
     have HN2 := Lib.hid (HR.out.symm.trans hn)
     have hok' : (97 ≤ (c : Int) ∧ 122 < (c : Int) ∧ 48 ≤ (c : Int) ∧ 57 < (c : Int)) ∨ ((c : Int) < 97 ∧ 48 ≤ (c : Int) ∧ 57 < (c : Int)) ∨ ((c : Int) < 97 ∧ (c : Int) < 48) := by omega
     clear hok HS HN hn
     rcases hok' with ⟨q1, q2, q3, q4⟩ | ⟨q1, q2, q3⟩ | ⟨q1, q2⟩
     all_goals
      go_wp2_with fail
      all_goals first
       | (go_ret; exact ⟨by rw [HN2.out]; rfl, (by repeat' (first | exact Below.refl _ _ | assumption | apply bDrewN | apply bDrew | apply bAlloc | (refine bSet ?_ ?_ _) | (refine bStep ?_ (by assumption)) | omega | (simp <;> omega)))⟩)
       | (exfalso; omega)
       | (exfalso; simp_all; omega)
   ·obtain rfl : k = s.size := by omega
    have hall : s.data.toList.all okc = true := by
     have := HQ.out
     rwa [← HLEN.out, List.take_length] at this
    have HAL := Lib.hid (HR.out.symm.trans hall)
    clear hcell hall
    go_wp2_with fail
    go_ret
    exact ⟨by rw [HAL.out]; rfl, (by repeat' (first | exact Below.refl _ _ | assumption | apply bDrewN | apply bDrew | apply bAlloc | (refine bSet ?_ ?_ _) | (refine bStep ?_ (by assumption)) | omega | (simp <;> omega)))⟩
 ·have hnb : nameB s = false := by unfold nameB; rw [decide_eq_false h1, Bool.false_and]
  rw [hnb]
  have h2 : (s.size : Int) < 1 ∨ (1 ≤ (s.size : Int) ∧ 20 < (s.size : Int)) := by omega
  rcases h2 with h2 | ⟨h2, h3⟩
  all_goals
   go_enter Tryz.func39, Tryz.ntmps39
   go_wp2
   go_ret
   exact ⟨rfl, (by repeat' (first | exact Below.refl _ _ | assumption | apply bDrewN | apply bDrew | apply bAlloc | (refine bSet ?_ ?_ _) | (refine bStep ?_ (by assumption)) | omega | (simp <;> omega)))⟩
end Go.Proofs.YtmpilgkfbibhlaaGreatDoor
namespace Go.Proofs.YtmpilgkfbibhlaaGreatDoor
open Sx Go.RowKit
def colon (s : ByteArray) : Int := Lib.indexByte s.data.toList 58
def cutS (s : ByteArray) : ByteArray × ByteArray × Bool := if 0 ≤ colon s then (s.extract 0 (colon s).toNat, s.extract ((colon s).toNat + 1) s.size, true) else (s, ⟨#[]⟩, false)
theorem index_one (s : ByteArray) (w : World) : Calls Tryz.prog 158 #[.string s, .string ⟨#[58]⟩] w fun e w' => e = .returned (.int .i64 (colon s)) ∧ w' = w :=
 Any.stringslite_Index_one lays219 s 58 w
set_option maxHeartbeats 1000000 in
set_option maxRecDepth 20000 in
theorem cut_lite (s : ByteArray) (w : World) (hs : s.size ≤ 1000000) : Calls Tryz.prog 145 #[.string s, .string ⟨#[58]⟩] w fun e w' => e = .returned (.tuple #[.string (cutS s).1, .string (cutS s).2.1, .bool (cutS s).2.2]) ∧ ∃ n, w' = w.drewN n := by
 have CI := Lib.hid (fun w => index_one s w)
 unfold cutS
 by_cases h : 0 ≤ colon s
 ·rw [if_pos h]
  obtain ⟨i, hi⟩ := Int.eq_ofNat_of_zero_le h
  have hroom : i < s.size := by
   have h1 := (Lib.indexByte_some (l := s.data.toList) (c := 58) (o := i) hi).1
   rw [Lib.size_eq]
   exact (List.getElem?_eq_some_iff.1 h1).1
  rw [hi] at CI ⊢
  simp only [Int.toNat_natCast]
  have c1 : (0 : Int) ≤ (i : Int) := by omega
  have c2 : (i : Int) ≤ (s.size : Int) := by omega
  have c3 : (0 : Int) ≤ (i : Int) + 1 := by omega
  have c4 : (i : Int) + 1 ≤ (s.size : Int) := by omega
  have c5 : IntKind.i64.wrap ((i : Int) + 1) = (i : Int) + 1 := Go.IntWalk.i64_in _ ⟨by omega, by omega⟩
  have c6 : ((i : Int) + 1).toNat = i + 1 := by omega
  have mixed : Tryz.prog.follows .mixedOrders = true := by kernel_rfl
  clear h hi
  go_enter Tryz.func145, Tryz.ntmps145
  go_wp2_with (go_at_call 158; refine (CI.out _).mono ?_; rintro e w' ⟨rfl, rfl⟩)
  go_region_o
  go_wp2
  exact bodyPost_ret (v := .tuple #[.string (s.extract 0 i), .string (s.extract (i + 1) s.size), .bool true]) (by simp only [results, Tryz.results145]; go_simp) rfl ⟨rfl, 1, rfl⟩
 ·rw [if_neg h]
  have h1 : colon s = -1 := by have := Lib.indexByte_ge s.data.toList 58; unfold colon at *; omega
  rw [h1] at CI
  clear h h1
  go_enter Tryz.func145, Tryz.ntmps145
  go_wp2_with (go_at_call 158; refine (CI.out _).mono ?_; rintro e w' ⟨rfl, rfl⟩)
  exact bodyPost_ret (v := .tuple #[.string s, .string ⟨#[]⟩, .bool false]) (by simp only [results, Tryz.results145]; go_simp) rfl ⟨rfl, 0, rfl⟩
set_option maxRecDepth 20000 in
theorem cut_any (s : ByteArray) (w : World) (hs : s.size ≤ 1000000) : Calls Tryz.prog 119 #[.string s, .string ⟨#[58]⟩] w fun e w' => e = .returned (.tuple #[.string (cutS s).1, .string (cutS s).2.1, .bool (cutS s).2.2]) ∧ ∃ n, w' = w.drewN n := by
 have CI := Lib.hid (fun w => cut_lite s w hs)
 generalize (cutS s).1 = x1 at *
 generalize (cutS s).2.1 = x2 at *
 generalize (cutS s).2.2 = x3 at *
 go_enter Tryz.func119, Tryz.ntmps119
 go_wp2_with (go_at_call 145; refine (CI.out _).mono ?_; rintro e w' ⟨rfl, n, rfl⟩)
 exact bodyPost_ret (v := .tuple #[.string x1, .string x2, .bool x3]) (by simp only [results, Tryz.results119]; go_simp) rfl ⟨rfl, n, rfl⟩
def numS (s : ByteArray) : Option Int := match Lib.atoiAll s.data.toList with | .ok v => some v | _ => none
theorem atoi_any (s : ByteArray) (w : World) (hs : s.size ≤ 1000000) (hG : GlobP w) :
  Calls Tryz.prog 120 #[.string s] w fun e w' => (∃ v x, e = .returned (.tuple #[.int .i64 v, x]) ∧ ((numS s = some v ∧ x = .nilIface) ∨ (numS s = none ∧ ∃ t p, x = .iface t p))) ∧ Below w.heap.size w w' := by
 obtain ⟨-, ⟨t1, v1, h1⟩, ⟨t2, v2, h2⟩, -⟩ := hG
 have k1 := World.var?_cell rngG_is h1 0
 have k2 := World.var?_cell synG_is h2 0
 unfold numS
 rcases hn : Lib.atoiAll s.data.toList with v | _ | _
 ·refine (Any.strconv_Atoi_ok laysC172 s (by omega) v hn w).mono fun e w' h => ?_
  obtain ⟨rfl, hw⟩ := h
  refine ⟨⟨v, _, rfl, Or.inl ⟨rfl, rfl⟩⟩, ?_⟩
  rcases hw with rfl | ⟨t, rfl⟩
  ·exact Below.refl _ _
  ·exact Lib.bytesWorld_below _ _ _
 ·refine (Any.strconv_Atoi_syntax laysC172 s (by omega) hn _ w (by rw [show laysC172_ren.g 15 = synG by kernel_rfl]; simpa using k2) (Or.inr ⟨_, _, rfl⟩)).mono fun e w' h => ?_
  obtain ⟨N, rfl, -, -, hb⟩ := h
  exact ⟨⟨_, _, rfl, Or.inr ⟨rfl, _, _, rfl⟩⟩, hb⟩
 ·refine (Any.strconv_Atoi_range laysC172 s (by omega) hn _ w (by rw [show laysC172_ren.g 16 = rngG by kernel_rfl]; simpa using k1) (Or.inr ⟨_, _, rfl⟩)).mono fun e w' h => ?_
  obtain ⟨N, rfl, -, -, hb⟩ := h
  exact ⟨⟨_, _, rfl, Or.inr ⟨rfl, _, _, rfl⟩⟩, hb⟩
end Go.Proofs.YtmpilgkfbibhlaaGreatDoor
