/-
 Rows of texts: contained in one, copied, without one.
-/
import Derived.Test.YtmpilgkfbibhlaaGreatDoorG1R
import Derived.Shelf.SlicesE.DeleteFunc
import Derived.Test.YtmpilgkfbibhlaaGreatDoorG0R
set_option linter.unusedSimpArgs false
set_option linter.unusedVariables false
namespace Go.Proofs.YtmpilgkfbibhlaaGreatDoor
open Go.RowKit Mr
def SRow (v : Value) (l : List ByteArray) (W : World) : Prop :=
 ∃ a c, v = .slice a l.length c ∧ (l ≠ [] → ∃ b off cs fr, a = some ⟨b, off, none⟩ ∧ W.heap[b]? = some (.cells cs 9 fr) ∧ ∀ (k : Nat) (t : ByteArray), l[k]? = some t → cs[off + k]? = some (.string t))
theorem SRow.keep {v : Value} {l : List ByteArray} {W w2 : World} (h : SRow v l W) (hk : ∀ (b : Nat) (cs : Array Value) (fr : Nat × Nat), W.heap[b]? = some (Obj.cells cs 9 fr) → w2.heap[b]? = W.heap[b]?) : SRow v l w2 := by
 obtain ⟨a, c, h1, h2⟩ := h
 refine ⟨a, c, h1, fun hn => ?_⟩
 obtain ⟨b, off, cs, fr, e1, e2, e3⟩ := h2 hn
 exact ⟨b, off, cs, fr, e1, (hk _ _ _ e2).trans e2, e3⟩
theorem SRow.step {v : Value} {l : List ByteArray} {W w2 : World} (h : SRow v l W) (hb : Below W.heap.size W w2) : SRow v l w2 := h.keep fun b _ _ e => hb.block b (blk_lt e)
theorem SRow.nil (W : World) : SRow (.slice none 0 0) [] W := ⟨none, 0, rfl, fun h => absurd rfl h⟩
theorem SRow.of_own {v : Value} {l : List ByteArray} {W : World} {B : Nat} (h : W.ownsRow B 9 1 v l.length (l.map Value.string)) : SRow v l W := by
 obtain ⟨h1, h2⟩ := h
 rcases h2 with ⟨h2, h3⟩ | ⟨g, cap, cur, q1, q2, q3, q4, q5, q6, q7⟩
 ·exact ⟨none, 0, by rw [h2, h3], fun hn => absurd (List.length_eq_zero_iff.1 h3) hn⟩
 ·refine ⟨_, cap, q1, fun _ => ⟨g, 0, cur, (0, 0), rfl, q3, fun k t hk => ?_⟩⟩
  have hj : (l.map Value.string)[k]? = some (.string t) := by rw [List.getElem?_map, hk]; rfl
  have hjl := (List.getElem?_eq_some_iff.1 hj).1
  rw [← q7, List.getElem?_take_of_lt (by simpa using hjl)] at hj
  simpa using hj
theorem SRow.cells {v : Value} {l : List ByteArray} {W : World} (h : SRow v l W) : ∃ a c, v = .slice a l.length c ∧ (l ≠ [] → ∃ b off, a = some ⟨b, off, none⟩ ∧ b < W.heap.size ∧ ∀ (j : Nat) (t : ByteArray), l[j]? = some t → W.cell? ⟨b, off + j, none⟩ = some (.string t)) := by
 obtain ⟨a, c, h1, h2⟩ := h
 refine ⟨a, c, h1, fun hn => ?_⟩
 obtain ⟨b, off, cs, fr, e1, e2, e3⟩ := h2 hn
 exact ⟨b, off, e1, blk_lt e2, fun j t hj => blk_cell e2 (e3 j t hj)⟩
theorem hasT_is (l : List ByteArray) (x : ByteArray) : Lib.containsS l x = hasT l x := by
 rw [Bool.eq_iff_iff, Lib.containsS_iff]
 unfold hasT
 rw [List.any_eq_true]
 constructor
 ·intro h; exact ⟨x, h, eqT_iff.2 rfl⟩
 ·rintro ⟨y, h1, h2⟩; rw [← eqT_iff.1 h2]; exact h1
theorem hasT_ne {l : List ByteArray} {x : ByteArray} (h : hasT l x = true) : l ≠ [] := by rintro rfl; cases h
theorem has_any {v : Value} {l : List ByteArray} {W : World} (h : SRow v l W) (hl : l.length ≤ 1000000) (s : ByteArray) : Calls Tryz.prog 99 #[v, .string s] W fun e w' => e = .returned (.bool (hasT l s)) ∧ w' = W := by
 obtain ⟨a, c, rfl, h2⟩ := h.cells
 by_cases hn : l = []
 ·subst hn
  exact Any.slices_Contains_string_empty lays110 a c s W
 ·obtain ⟨b, off, rfl, -, h3⟩ := h2 hn
  have h4 := Any.slices_Contains_string lays110 b off l.length c l s W (Nat.le_refl _) (by omega) (fun j hj => h3 j _ (by rw [List.getD_eq_getElem?_getD, List.getElem?_eq_getElem hj]; rfl))
  rw [List.take_of_length_le (Nat.le_refl _), hasT_is] at h4
  exact h4
structure SRowF (N : Nat) (v : Value) (l : List ByteArray) (W : World) : Prop where
 r : SRow v l W
 f : ∀ k, v.ownBlock = some k → N ≤ k
theorem infoS' : (Tryz.prog.info? 9).map (fun i => (i.zero, i.size, i.bytes)) = some (some (.string ⟨#[]⟩), 1, 16) := by kernel_rfl
theorem clone_any {v : Value} {l : List ByteArray} {w : World} (h : SRow v l w) (hl : l.length ≤ 1000000) : Calls Tryz.prog 71 #[v] w fun e w' => ∃ v', e = .returned v' ∧ w'.ownsRow w.heap.size 9 1 v' l.length (l.map Value.string) ∧ Below w.heap.size w w' := by
 obtain ⟨i0, hi, hz0, hz1, hz2⟩ := info_parts infoS'
 obtain ⟨a, c, rfl, h2⟩ := h.cells
 cases a with
 | none =>
  have hn : l = [] := Classical.byContradiction fun hn => by obtain ⟨b, off, e, -⟩ := h2 hn; cases e
  subst hn
  refine (AnyE.slices_Clone_nil laysSlE041_f71 0 c w).mono fun e w' q => ?_
  obtain ⟨rfl, rfl⟩ := q
  exact ⟨_, rfl, ⟨rfl, Or.inl ⟨rfl, rfl⟩⟩, Below.refl _ _⟩
 | some a =>
  by_cases hn : l = []
  ·subst hn
   refine (Any.slices_Clone_string_zero laysNm216 a c w).mono fun e w' q => ?_
   obtain ⟨v', rfl, q1, q2⟩ := q
   exact ⟨v', rfl, q1, q2.2⟩
  ·obtain ⟨b, off, e, -, h3⟩ := h2 hn
   obtain rfl := Option.some.inj e
   refine (AnyE.slices_Clone laysSlE041_f71 i0 (.string ⟨#[]⟩) 1 16 hi hz0 hz1 hz2 rfl (by decide) (fun w => Tryz.sizeOf9 w) b off l.length c (l.map Value.string) w (by simp) (by unfold maxLen; omega) (by omega) (fun j u hu => ?_) (fun u hu => ?_)).mono fun e w' q => ?_
   ·rw [List.getElem?_map] at hu
    cases hj : l[j]? with
    | none => rw [hj] at hu; cases hu
    | some t => rw [hj] at hu; cases hu; exact h3 j t hj
   ·obtain ⟨t, -, rfl⟩ := List.mem_map.1 hu; rfl
   ·obtain ⟨v', rfl, q1, -, q2⟩ := q
    exact ⟨v', rfl, q1, q2⟩
end Go.Proofs.YtmpilgkfbibhlaaGreatDoor
namespace Go.Proofs.YtmpilgkfbibhlaaGreatDoor
open Go.RowKit Mr
theorem putRow_at {α : Type} [Inhabited α] {enc : α → Value} {w : World} {b off : Nat} {d : Array α} {cs : Array Value} {t : TypeId} {fr : Nat × Nat} (h : w.heap[b]? = some (.cells cs t fr)) : (Sort.putRow enc w b off d).heap[b]? = some (.cells (Sort.putCells enc off d cs) t fr) := by
 unfold Sort.putRow Sort.mapBlock
 simp [Array.getElem?_modify, h, Sort.onCells]
theorem putRow_below {α : Type} [Inhabited α] {enc : α → Value} {w : World} {b off B : Nat} {d : Array α} (h : B ≤ b) : Below B w (Sort.putRow enc w b off d) := by
 refine ⟨rfl, rfl, rfl, ?_, fun k hk => ?_⟩
 ·unfold Sort.putRow Sort.mapBlock; simp
 ·unfold Sort.putRow Sort.mapBlock
  simp only [Array.getElem?_modify]
  rw [if_neg (by omega)]
theorem without1_any (s x : ByteArray) (B : Nat) (W : World) (hc : W.cell? ⟨B, 0, none⟩ = some (.string s)) :
  Calls Tryz.prog 140 #[.string x, .pointer (some ⟨B, 0, none⟩)] W fun e w' => e = .returned (.bool (eqT x s)) ∧ ∃ q, w' = W.drewN q := by
 unfold eqT
 go_enter Tryz.func140, Tryz.ntmps140
 go_wp2_with fail
 go_ret
 exact ⟨rfl, 0, rfl⟩
theorem filt_len (l : List ByteArray) (p : ByteArray → Bool) : (l.filter p).length ≤ l.length := List.length_filter_le p l
set_option maxHeartbeats 1000000 in
theorem without_any {v : Value} {l : List ByteArray} {w : World} (h : SRow v l w) (hn : l ≠ []) (hl : l.length ≤ 1000000) (s : ByteArray) :
  Calls Tryz.prog 107 #[v, .string s] w fun e w' => ∃ v', e = .returned v' ∧ SRowF w.heap.size v' (dropT l s) w' ∧ Below w.heap.size w w' := by
 have eg : ∀ args w, (callFunc 140 args).run Tryz.prog w = .ok (.enter 140 args) w := enters_of Tryz.func140 (by kernel_rfl) rfl
 have CC := Lib.hid (clone_any (h.step (bAl (W := w) (o := .cells #[.string s] 9))) hl)
 have CD : Hid (∀ (v' : Value) (w2 : World), w2.ownsRow (w.alloc (.cells #[.string s] 9)).heap.size 9 1 v' l.length (l.map Value.string) → Below (w.alloc (.cells #[.string s] 9)).heap.size (w.alloc (.cells #[.string s] 9)) w2 →
   Calls Tryz.prog 90 #[v', .func (.func 140) #[] #[.pointer (some ⟨w.heap.size, 0, none⟩)]] w2 fun e w' => ∃ v'', e = .returned v'' ∧ SRowF w.heap.size v'' (dropT l s) w' ∧ Below w.heap.size w w') := by
  intro v' w2 ho hb
  have hsz : (w.alloc (.cells #[.string s] 9)).heap.size = w.heap.size + 1 := by simp
  rw [hsz] at ho
  obtain ⟨-, h2⟩ := ho
  have hnl : l.length ≠ 0 := fun e => hn (List.length_eq_zero_iff.1 e)
  rcases h2 with ⟨-, h3⟩ | ⟨g, cap, cur, rfl, q2, q3, q4, q5, q6, q7⟩
  ·exact absurd h3 hnl
  have hbox : ∀ W, Below w2.heap.size w2 W → W.cell? ⟨w.heap.size, 0, none⟩ = some (.string s) := fun W hW => by
   have e1 : (w.alloc (.cells #[.string s] 9)).cell? ⟨w.heap.size, 0, none⟩ = some (.string s) := by go_simp
   have e2 : w2.cell? ⟨w.heap.size, 0, none⟩ = some (.string s) := cell_step e1 hb
   exact cell_step e2 hW
  have hcur : ∀ j, j < l.length → cur[j]? = some (.string (l.getD j ByteArray.empty)) := fun j hj => by
   have hj2 : (l.map Value.string)[j]? = some (.string (l.getD j ByteArray.empty)) := by
    rw [List.getElem?_map, List.getD_eq_getElem?_getD, List.getElem?_eq_getElem hj]; rfl
   rw [← q7, List.getElem?_take_of_lt (by simpa using hj)] at hj2
   simpa using hj2
  have hds : l.toArray.size = l.length := by simp
  have hH : Sort.Holds Value.string w2 g 0 l.toArray := fun j hj => by
   rw [hds] at hj
   refine ⟨?_, blk_free q3⟩
   rw [blk_cell q3 (by rw [Nat.zero_add]; exact hcur j hj)]
   simp [List.getD_eq_getElem?_getD, hj]
  have hp : PredAt Tryz.prog 140 #[.pointer (some ⟨w.heap.size, 0, none⟩)] Value.string (fun t => eqT t s) w2 := fun W x hW => without1_any s x w.heap.size W (hbox W hW)
  have hpo : PredOver Tryz.prog 140 #[.pointer (some ⟨w.heap.size, 0, none⟩)] Value.string (fun t => eqT t s) g 0 l.toArray.size w2 := fun n os dk x _ => without1_any s x w.heap.size _ (by
   unfold sortWorld
   have hlt : w.heap.size < w2.heap.size := by have := hb.size; rw [hsz] at this; omega
   rw [Sort.cell?_grow _ _ _ (by show w.heap.size < (Sort.putRow _ _ _ _ _).heap.size; rw [Sort.size_putRow]; exact hlt), Sort.cell?_putRow_other _ _ g 0 _ _ (Or.inl (by show w.heap.size ≠ g; omega))]
   exact hbox w2 (Below.refl _ _))
  have hcon := AnyE.slices_DeleteFunc laysSlH10_f90 Value.string (fun _ => rfl) (fun t => eqT t s) 140 #[.pointer (some ⟨w.heap.size, 0, none⟩)] eg ⟨#[]⟩ (fun w => Tryz.zeroValue9 w) g 0 cap l.toArray w2 hp hpo hH (by rw [hds]; omega) (by rw [hds]; omega)
  rw [hds] at hcon
  refine hcon.mono fun e w' q => ?_
  obtain ⟨rfl, q, rfl⟩ := q
  have hdr : (l.filter fun x => !(eqT x s)) = dropT l s := rfl
  rw [hdr]
  have hle : (dropT l s).length ≤ l.length := filt_len _ _
  refine ⟨_, rfl, ⟨⟨_, cap, rfl, fun hne => ⟨g, 0, _, (0, 0), rfl, putRow_at (w := Sort.ahead w2 q) q3, fun k t hk => ?_⟩⟩, fun k hk => ?_⟩, ?_⟩
  ·have hkl : k < (dropT l s).length := (List.getElem?_eq_some_iff.1 hk).1
   have hcl : k < cur.size := by rw [q6]; omega
   unfold Sort.putCells
   rw [Array.getElem?_mapIdx, Nat.zero_add, Array.getElem?_eq_getElem hcl]
   have hsz2 : (dropT l s ++ List.replicate (l.length - (dropT l s).length) (⟨#[]⟩ : ByteArray)).toArray.size = l.length := by simp; omega
   simp only [Option.map_some]
   rw [if_pos ⟨Nat.zero_le _, by rw [hsz2]; omega⟩, Nat.sub_zero]
   congr 2
   rw [getElem!_pos _ _ (by rw [hsz2]; omega)]
   simp only [List.getElem_toArray]
   rw [List.getElem_append_left hkl]
   rw [List.getElem?_eq_getElem hkl] at hk
   exact Option.some.inj hk
  ·have : g = k := by simpa [Value.ownBlock] using hk
   omega
  ·have b1 : Below w.heap.size w w2 := bStep bAl hb
   exact b1.trans (Below.trans (b := Sort.ahead w2 q) ⟨rfl, rfl, rfl, Nat.le_refl _, fun _ _ => rfl⟩ (putRow_below (by omega)))
 clear h hn hl eg
 generalize dropT l s = r at *
 generalize l.map Value.string = xs at *
 generalize l.length = n at *
 go_enter Tryz.func107, Tryz.ntmps107
 go_wp2_with (first
  | (go_at_call 71; refine CC.out.mono ?_; rintro e w1 ⟨v', rfl, ho, hb⟩; have C2 := Lib.hid (CD.out v' w1 ho hb); clear ho hb)
  | (go_at_call 90; refine C2.out.mono ?_; rintro e w2 ⟨v2, rfl, hr, hb2⟩))
 go_ret
 exact ⟨_, rfl, hr, hb2⟩
end Go.Proofs.YtmpilgkfbibhlaaGreatDoor
namespace Go.Proofs.YtmpilgkfbibhlaaGreatDoor
open Go.RowKit
section
variable {P : Program} {ops : Array Oper} {Q : Exit → Act → World → Prop}
def early (ops : Array Oper) : Bool := (List.range ops.size).all fun i => ((ops[i]?).map (·.after.all fun e => !Region.binds .any e || decide (e.on < i))).getD true
theorem all_listed {l : Array Bool} (hsz : l.size = ops.size) (he : early ops = true) (h : Region.ready .any ops l = []) : ∀ i, i < ops.size → l.getD i true = true := by
 intro i
 induction i using Nat.strongRecOn with
 | _ i ih =>
  intro hi
  cases hl : l.getD i true with
  | true => rfl
  | false =>
   exfalso
   have hr : i ∈ Region.ready .any ops l := by
    unfold Region.ready
    rw [List.mem_filter]
    refine ⟨List.mem_range.2 hi, ?_⟩
    have ho : ops[i]? = some ops[i] := Array.getElem?_eq_getElem hi
    rw [hl, ho]
    simp only [Bool.not_false, Bool.true_and, Option.map_some, Option.getD_some]
    rw [Array.all_eq_true']
    intro e hem
    have h1 := List.all_eq_true.1 he i (List.mem_range.2 hi)
    rw [ho] at h1
    simp only [Option.map_some, Option.getD_some] at h1
    rw [Array.all_eq_true'] at h1
    have h2 := h1 e hem
    cases hb : Region.binds .any e with
    | false => simp
    | true =>
     rw [hb] at h2
     simp at h2
     have h3 := ih e.on h2 (by omega)
     have : l.getD e.on false = true := by
      rw [Array.getD_eq_getD_getElem?] at h3 ⊢
      cases hx : l[e.on]? with
      | some x => rw [hx] at h3; simpa using h3
      | none =>
       exfalso
       rw [Array.getElem?_eq_none_iff] at hx
       omega
     simp [this]
   rw [h] at hr
   exact absurd hr (by simp)
def left (l : Array Bool) : Nat := l.toList.count false
theorem left_set {l : Array Bool} {i : Nat} (hi : i < l.size) (h : l.getD i true = false) : left (l.setIfInBounds i true) + 1 = left l := by
 obtain ⟨l⟩ := l
 simp only [left, List.setIfInBounds_toArray]
 have hi' : i < l.length := by simpa using hi
 have h' : l[i] = false := by
  rw [Array.getD_eq_getD_getElem?] at h
  simpa [hi'] using h
 rw [List.count_set hi']
 have hc : 0 < List.count false l := List.count_pos_iff.2 (h' ▸ List.getElem_mem hi')
 simp [h']
 omega
theorem ready_iff {md : Region.Mode} {l : Array Bool} {i : Nat} (h : i ∈ Region.ready md ops l) :
  i < ops.size ∧ l.getD i true = false ∧ ∀ o, ops[i]? = some o → (o.after.all fun e => !Region.binds md e || l.getD e.on false) = true := by
 unfold Region.ready at h
 rw [List.mem_filter] at h
 obtain ⟨h1, h2⟩ := h
 rw [Bool.and_eq_true] at h2
 refine ⟨List.mem_range.1 h1, by simpa using h2.1, fun o ho => ?_⟩
 have h3 := h2.2
 rw [ho] at h3
 simpa using h3
theorem any_inv (he : early ops = true) (I : Array Bool → Act → World → Prop) (hsz : ∀ l a w, I l a w → l.size = ops.size)
  (step : ∀ i o, ops[i]? = some o → ∀ l a w, I l a w → l.getD i true = false → (o.after.all fun e => !Region.binds .any e || l.getD e.on false) = true → wpOp P ops Q i (I (l.setIfInBounds i true)) a w)
  (done : ∀ l a w, I l a w → (∀ i, i < ops.size → l.getD i true = true) → Q .normal a w) :
  ∀ fuel l a w, I l a w → left l ≤ fuel → wpAny P .any ops Q fuel l a w := by
 intro fuel
 induction fuel with
 | zero =>
  intro l a w hI hf
  have hr : Region.ready .any ops l = [] := by
   rw [List.eq_nil_iff_forall_not_mem]
   intro i hi
   obtain ⟨h1, h2, _⟩ := ready_iff hi
   have := left_set (by rw [hsz l a w hI]; exact h1) h2
   omega
  exact ⟨hr, done l a w hI (all_listed (hsz l a w hI) he hr)⟩
 | succ n ih =>
  intro l a w hI hf
  refine ⟨fun hr => done l a w hI (all_listed (hsz l a w hI) he hr), fun i hi => ?_⟩
  obtain ⟨h1, h2, h3⟩ := ready_iff hi
  have ho : ops[i]? = some ops[i] := Array.getElem?_eq_getElem h1
  have hl := left_set (by rw [hsz l a w hI]; exact h1) h2
  exact wpOp_mono (fun a' w' h' => ih _ a' w' h' (by omega)) (step i _ ho l a w hI h2 (h3 _ ho))
theorem left_new (n : Nat) : left (Array.replicate n false) = n := by simp [left]
theorem region_inv {id : Nat} {a : Act} {w : World} (hm : P.follows .mixedOrders = true) (he : early ops = true) (I : Array Bool → Act → World → Prop) (h0 : I (Array.replicate ops.size false) a w.drew) (hsz : ∀ l a w, I l a w → l.size = ops.size)
  (step : ∀ i o, ops[i]? = some o → ∀ l a w, I l a w → l.getD i true = false → (o.after.all fun e => !Region.binds .any e || l.getD e.on false) = true → wpOp P ops Q i (I (l.setIfInBounds i true)) a w)
  (done : ∀ l a w, I l a w → (∀ i, i < ops.size → l.getD i true = true) → Q .normal a w) : (Code.region id ops true).wp P Q a w :=
 wp_region_any hm (any_inv he I hsz step done ops.size _ _ _ h0 (by rw [left_new]; exact Nat.le_refl _))
theorem wpOp_plain {i : Nat} {o : Oper} {K : Act → World → Prop} {a : Act} {w : World} (hi : ops[i]? = some o) (hg : o.guard = none) (h : o.wp P a w K Q) : wpOp P ops Q i K a w := by
 unfold wpOp
 rw [hi]
 simp only [Region.wanted, hg, if_true]
 exact .inl h
end
end Go.Proofs.YtmpilgkfbibhlaaGreatDoor
