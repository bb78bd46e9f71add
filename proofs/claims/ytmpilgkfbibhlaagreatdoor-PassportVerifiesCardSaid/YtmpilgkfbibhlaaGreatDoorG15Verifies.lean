/-
 secrets of package passport: whole.
-/
import Derived.Test.YtmpilgkfbibhlaaGreatDoorG14Verifies
import Derived.Test.YtmpilgkfbibhlaaGreatDoorG13Verifies
import Derived.Shelf.SlicesE.DeleteFunc
import Derived.Test.YtmpilgkfbibhlaaGreatDoorG0Verifies
import Derived.Deep.QuietTactic
import Derived.Deep.Cut
import Derived.Test.YtmpilgkfbibhlaaGreatDoorG12Verifies
import Derived.Test.YtmpilgkfbibhlaaGreatDoorG9Verifies
set_option linter.unusedSimpArgs false
set_option linter.unusedVariables false
namespace Go.Proofs.YtmpilgkfbibhlaaGreatDoor
open Go.RowKit
theorem bkstep {a : Option Addr} {bks : List Bk} {W w2 : World} (hb : Below W.heap.size W w2) (h : BksAt a bks W) : BksAt a bks (w2.alloc (.cells #[.int .u64 2147483647] 22)) := (h.step hb).step Mr.bAl
set_option maxHeartbeats 2000000 in
set_option maxRecDepth 20000 in
theorem Secrets_any {a : Option Addr} {bks : List Bk} {w : World} (pt c : Nat) (h : BksAt a bks w) (hl : bks.length ≤ 1000000 ∧ ∀ bk ∈ bks, bk.2.length ≤ 1000000) :
  Calls Tryz.prog 38 #[.int .u64 (pt : Int), .slice a bks.length c] w fun e w' => e = .returned (.int .i64 (secR pt bks)) ∧ Below w.heap.size w w' := by
 have CL := Lib.hid (large_any w)
 have H0 := Lib.hid h
 have HLL := Lib.hid hl
 clear h hl
 unfold secR
 by_cases c1 : pt < 1
 ·rw [if_pos (Or.inl c1)]
  have d1 : (pt : Int) < 1 := by omega
  clear c1
  go_enter Tryz.func38, Tryz.ntmps38
  go_wp2_with (go_at_call 40; refine CL.out.mono ?_; rintro e w1 ⟨B0, off0, rfl, h1, h2, h3, h4, hb1⟩; have HX1 := Lib.hid (And.intro hb1 (bkstep hb1 H0.out)); clear h1 h4)
  exact bodyPost_ret (v := .int .i64 3) (by simp only [results, Tryz.results38]; go_simp) rfl ⟨rfl, bStep HX1.out.1 Mr.bAl⟩
 ·by_cases c2 : P31 ≤ pt
  ·rw [if_pos (Or.inr c2)]
   have d1 : ¬ (pt : Int) < 1 := by omega
   have d2 : (2147483647 : Int) ≤ pt := by unfold P31 at c2; omega
   clear c1 c2
   go_enter Tryz.func38, Tryz.ntmps38
   go_wp2_with (go_at_call 40; refine CL.out.mono ?_; rintro e w1 ⟨B0, off0, rfl, h1, h2, h3, h4, hb1⟩; have HX1 := Lib.hid (And.intro hb1 (bkstep hb1 H0.out)); clear h1 h4)
   exact bodyPost_ret (v := .int .i64 3) (by simp only [results, Tryz.results38]; go_simp) rfl ⟨rfl, bStep HX1.out.1 Mr.bAl⟩
  ·rw [if_neg (fun e => e.elim c1 c2)]
   have d1 : decide ((pt : Int) < 1) = false := decide_eq_false (by omega)
   have d2 : decide ((2147483647 : Int) ≤ pt) = false := decide_eq_false (by unfold P31 at c2; omega)
   clear c1 c2
   have CH := Lib.hid (fun (W : World) (B : Nat) (hh : BksAt a bks W) (hB : B < W.heap.size) (hcc : W.cell? ⟨B, 0, none⟩ = some (.int .u64 2147483647)) => hasBad_any (w := W) c B hh HLL.out hB hcc)
   clear HLL
   generalize bks.length = n at *
   generalize bks.any badBk = r at *
   by_cases c3 : n < 1
   ·rw [if_pos (Or.inl c3)]
    have d3 : (n : Int) < 1 := by omega
    clear c3
    go_enter Tryz.func38, Tryz.ntmps38
    go_wp2_with (go_at_call 40; refine CL.out.mono ?_; rintro e w1 ⟨B0, off0, rfl, h1, h2, h3, h4, hb1⟩; have HX1 := Lib.hid (And.intro hb1 (bkstep hb1 H0.out)); clear h1 h4)
    exact bodyPost_ret (v := .int .i64 2) (by simp only [results, Tryz.results38]; go_simp) rfl ⟨rfl, bStep HX1.out.1 Mr.bAl⟩
   ·by_cases c4 : 8 < n
    ·rw [if_pos (Or.inr (Or.inl c4))]
     have d3 : ¬ (n : Int) < 1 := by omega
     have d4 : (8 : Int) < n := by omega
     clear c3 c4
     go_enter Tryz.func38, Tryz.ntmps38
     go_wp2_with (go_at_call 40; refine CL.out.mono ?_; rintro e w1 ⟨B0, off0, rfl, h1, h2, h3, h4, hb1⟩; have HX1 := Lib.hid (And.intro hb1 (bkstep hb1 H0.out)); clear h1 h4)
     exact bodyPost_ret (v := .int .i64 2) (by simp only [results, Tryz.results38]; go_simp) rfl ⟨rfl, bStep HX1.out.1 Mr.bAl⟩
    ·have hs : (if n < 1 ∨ 8 < n ∨ r = true then (2 : Int) else 0) = (bif r then 2 else 0) := by
      cases r
      ·rw [if_neg (by rintro (e | e | e); exact c3 e; exact c4 e; cases e)]; rfl
      ·rw [if_pos (Or.inr (Or.inr rfl))]; rfl
     rw [hs]
     have d3 : ¬ (n : Int) < 1 := by omega
     have d4 : ¬ (8 : Int) < n := by omega
     clear c3 c4 hs
     cases r
     ·go_enter Tryz.func38, Tryz.ntmps38
      go_wp2_with (first | (go_at_call 40; refine CL.out.mono ?_; rintro e w1 ⟨B0, off0, rfl, h1, h2, h3, h4, hb1⟩; have HX1 := Lib.hid (And.intro hb1 (bkstep hb1 H0.out)); clear h1 h4) | (go_at_call 95; refine (CH.out _ _ HX1.out.2 (by simp) (by go_simp)).mono ?_; rintro e w2 ⟨rfl, hb2⟩))
      exact bodyPost_ret (v := .int .i64 0) (by simp only [results, Tryz.results38]; go_simp) rfl ⟨rfl, bStep HX1.out.1 (bStep Mr.bAl hb2)⟩
     ·go_enter Tryz.func38, Tryz.ntmps38
      go_wp2_with (first | (go_at_call 40; refine CL.out.mono ?_; rintro e w1 ⟨B0, off0, rfl, h1, h2, h3, h4, hb1⟩; have HX1 := Lib.hid (And.intro hb1 (bkstep hb1 H0.out)); clear h1 h4) | (go_at_call 95; refine (CH.out _ _ HX1.out.2 (by simp) (by go_simp)).mono ?_; rintro e w2 ⟨rfl, hb2⟩))
      exact bodyPost_ret (v := .int .i64 2) (by simp only [results, Tryz.results38]; go_simp) rfl ⟨rfl, bStep HX1.out.1 (bStep Mr.bAl hb2)⟩
end Go.Proofs.YtmpilgkfbibhlaaGreatDoor
namespace Go.Proofs.YtmpilgkfbibhlaaGreatDoor
open Go.RowKit Mr
def SRow (v : Value) (l : List ByteArray) (W : World) : Prop :=
 ∃ a c, v = .slice a l.length c ∧ (l ≠ [] → ∃ b off cs fr, a = some ⟨b, off, none⟩ ∧ W.heap[b]? = some (.cells cs 9 fr) ∧ ∀ (k : Nat) (t : ByteArray), l[k]? = some t → cs[off + k]? = some (.string t))
theorem SRow.keep {v : Value} {l : List ByteArray} {W w2 : World} (h : SRow v l W) (hk : ∀ (b : Nat) (cs : Array Value) (fr : Nat × Nat), W.heap[b]? = some (Obj.cells cs 9 fr) → w2.heap[b]? = W.heap[b]?) : SRow v l w2 := by
 obtain ⟨a, c, h1, h2⟩ := h
 refine ⟨a, c, h1, fun hn => ?_⟩
 obtain ⟨b, off, cs, fr, e1, e2, e3⟩ := h2 hn
 exact ⟨b, off, cs, fr, e1, (hk _ _ _ e2).trans e2, e3⟩
theorem SRow.step {v : Value} {l : List ByteArray} {W w2 : World} (h : SRow v l W) (hb : Below W.heap.size W w2) : SRow v l w2 := h.keep fun b _ _ e => hb.block b (blk_lt e)
theorem SRow.nil (W : World) : SRow (.slice none 0 0) [] W := ⟨none, 0, rfl, fun h => absurd rfl h⟩
theorem SRow.of_own {v : Value} {l : List ByteArray} {W : World} {B : Nat} (h : W.ownsRow B 9 1 v l.length (l.map Value.string)) : SRow v l W := by
 obtain ⟨h1, h2⟩ := h
 rcases h2 with ⟨h2, h3⟩ | ⟨g, cap, cur, q1, q2, q3, q4, q5, q6, q7⟩
 ·exact ⟨none, 0, by rw [h2, h3], fun hn => absurd (List.length_eq_zero_iff.1 h3) hn⟩
 ·refine ⟨_, cap, q1, fun _ => ⟨g, 0, cur, (0, 0), rfl, q3, fun k t hk => ?_⟩⟩
  have hj : (l.map Value.string)[k]? = some (.string t) := by rw [List.getElem?_map, hk]; rfl
  have hjl := (List.getElem?_eq_some_iff.1 hj).1
  rw [← q7, List.getElem?_take_of_lt (by simpa using hjl)] at hj
  simpa using hj
theorem SRow.cells {v : Value} {l : List ByteArray} {W : World} (h : SRow v l W) : ∃ a c, v = .slice a l.length c ∧ (l ≠ [] → ∃ b off, a = some ⟨b, off, none⟩ ∧ b < W.heap.size ∧ ∀ (j : Nat) (t : ByteArray), l[j]? = some t → W.cell? ⟨b, off + j, none⟩ = some (.string t)) := by
 obtain ⟨a, c, h1, h2⟩ := h
 refine ⟨a, c, h1, fun hn => ?_⟩
 obtain ⟨b, off, cs, fr, e1, e2, e3⟩ := h2 hn
 exact ⟨b, off, e1, blk_lt e2, fun j t hj => blk_cell e2 (e3 j t hj)⟩
theorem hasT_is (l : List ByteArray) (x : ByteArray) : Lib.containsS l x = hasT l x := by
 rw [Bool.eq_iff_iff, Lib.containsS_iff]
 unfold hasT
 rw [List.any_eq_true]
 constructor
 ·intro h; exact ⟨x, h, eqT_iff.2 rfl⟩
 ·rintro ⟨y, h1, h2⟩; rw [← eqT_iff.1 h2]; exact h1
theorem hasT_ne {l : List ByteArray} {x : ByteArray} (h : hasT l x = true) : l ≠ [] := by rintro rfl; cases h
theorem has_any {v : Value} {l : List ByteArray} {W : World} (h : SRow v l W) (hl : l.length ≤ 1000000) (s : ByteArray) : Calls Tryz.prog 99 #[v, .string s] W fun e w' => e = .returned (.bool (hasT l s)) ∧ w' = W := by
 obtain ⟨a, c, rfl, h2⟩ := h.cells
 by_cases hn : l = []
 ·subst hn
  exact Any.slices_Contains_string_empty lays110 a c s W
 ·obtain ⟨b, off, rfl, -, h3⟩ := h2 hn
  have h4 := Any.slices_Contains_string lays110 b off l.length c l s W (Nat.le_refl _) (by omega) (fun j hj => h3 j _ (by rw [List.getD_eq_getElem?_getD, List.getElem?_eq_getElem hj]; rfl))
  rw [List.take_of_length_le (Nat.le_refl _), hasT_is] at h4
  exact h4
theorem infoS' : (Tryz.prog.info? 9).map (fun i => (i.zero, i.size, i.bytes)) = some (some (.string ⟨#[]⟩), 1, 16) := by kernel_rfl
theorem clone_any {v : Value} {l : List ByteArray} {w : World} (h : SRow v l w) (hl : l.length ≤ 1000000) : Calls Tryz.prog 71 #[v] w fun e w' => ∃ v', e = .returned v' ∧ w'.ownsRow w.heap.size 9 1 v' l.length (l.map Value.string) ∧ Below w.heap.size w w' := by
 obtain ⟨i0, hi, hz0, hz1, hz2⟩ := info_parts infoS'
 obtain ⟨a, c, rfl, h2⟩ := h.cells
 cases a with
 | none =>
  have hn : l = [] := Classical.byContradiction fun hn => by obtain ⟨b, off, e, -⟩ := h2 hn; cases e
  subst hn
  refine (AnyE.slices_Clone_nil laysSlE041_f71 0 c w).mono fun e w' q => ?_
  obtain ⟨rfl, rfl⟩ := q
  exact ⟨_, rfl, ⟨rfl, Or.inl ⟨rfl, rfl⟩⟩, Below.refl _ _⟩
 | some a =>
  by_cases hn : l = []
  ·subst hn
   refine (Any.slices_Clone_string_zero laysNm216 a c w).mono fun e w' q => ?_
   obtain ⟨v', rfl, q1, q2⟩ := q
   exact ⟨v', rfl, q1, q2.2⟩
  ·obtain ⟨b, off, e, -, h3⟩ := h2 hn
   obtain rfl := Option.some.inj e
   refine (AnyE.slices_Clone laysSlE041_f71 i0 (.string ⟨#[]⟩) 1 16 hi hz0 hz1 hz2 rfl (by decide) (fun w => Tryz.sizeOf9 w) b off l.length c (l.map Value.string) w (by simp) (by unfold maxLen; omega) (by omega) (fun j u hu => ?_) (fun u hu => ?_)).mono fun e w' q => ?_
   ·rw [List.getElem?_map] at hu
    cases hj : l[j]? with
    | none => rw [hj] at hu; cases hu
    | some t => rw [hj] at hu; cases hu; exact h3 j t hj
   ·obtain ⟨t, -, rfl⟩ := List.mem_map.1 hu; rfl
   ·obtain ⟨v', rfl, q1, -, q2⟩ := q
    exact ⟨v', rfl, q1, q2⟩
end Go.Proofs.YtmpilgkfbibhlaaGreatDoor
namespace Go.Proofs.YtmpilgkfbibhlaaGreatDoor
open Go.RowKit Mr
theorem putRow_at {α : Type} [Inhabited α] {enc : α → Value} {w : World} {b off : Nat} {d : Array α} {cs : Array Value} {t : TypeId} {fr : Nat × Nat} (h : w.heap[b]? = some (.cells cs t fr)) : (Sort.putRow enc w b off d).heap[b]? = some (.cells (Sort.putCells enc off d cs) t fr) := by
 unfold Sort.putRow Sort.mapBlock
 simp [Array.getElem?_modify, h, Sort.onCells]
theorem putRow_below {α : Type} [Inhabited α] {enc : α → Value} {w : World} {b off B : Nat} {d : Array α} (h : B ≤ b) : Below B w (Sort.putRow enc w b off d) := by
 refine ⟨rfl, rfl, rfl, ?_, fun k hk => ?_⟩
 ·unfold Sort.putRow Sort.mapBlock; simp
 ·unfold Sort.putRow Sort.mapBlock
  simp only [Array.getElem?_modify]
  rw [if_neg (by omega)]
theorem without1_any (s x : ByteArray) (B : Nat) (W : World) (hc : W.cell? ⟨B, 0, none⟩ = some (.string s)) :
  Calls Tryz.prog 140 #[.string x, .pointer (some ⟨B, 0, none⟩)] W fun e w' => e = .returned (.bool (eqT x s)) ∧ ∃ q, w' = W.drewN q := by
 unfold eqT
 go_enter Tryz.func140, Tryz.ntmps140
 go_wp2_with fail
 go_ret
 exact ⟨rfl, 0, rfl⟩
theorem filt_len (l : List ByteArray) (p : ByteArray → Bool) : (l.filter p).length ≤ l.length := List.length_filter_le p l
set_option maxHeartbeats 1000000 in
theorem without_any {v : Value} {l : List ByteArray} {w : World} (h : SRow v l w) (hn : l ≠ []) (hl : l.length ≤ 1000000) (s : ByteArray) :
  Calls Tryz.prog 107 #[v, .string s] w fun e w' => ∃ v', e = .returned v' ∧ SRow v' (dropT l s) w' ∧ Below w.heap.size w w' := by
 have eg : ∀ args w, (callFunc 140 args).run Tryz.prog w = .ok (.enter 140 args) w := enters_of Tryz.func140 (by kernel_rfl) rfl
 have CC := Lib.hid (clone_any (h.step (bAl (W := w) (o := .cells #[.string s] 9))) hl)
 have CD : Hid (∀ (v' : Value) (w2 : World), w2.ownsRow (w.alloc (.cells #[.string s] 9)).heap.size 9 1 v' l.length (l.map Value.string) → Below (w.alloc (.cells #[.string s] 9)).heap.size (w.alloc (.cells #[.string s] 9)) w2 →
   Calls Tryz.prog 90 #[v', .func (.func 140) #[] #[.pointer (some ⟨w.heap.size, 0, none⟩)]] w2 fun e w' => ∃ v'', e = .returned v'' ∧ SRow v'' (dropT l s) w' ∧ Below w.heap.size w w') := by
  intro v' w2 ho hb
  have hsz : (w.alloc (.cells #[.string s] 9)).heap.size = w.heap.size + 1 := by simp
  rw [hsz] at ho
  obtain ⟨-, h2⟩ := ho
  have hnl : l.length ≠ 0 := fun e => hn (List.length_eq_zero_iff.1 e)
  rcases h2 with ⟨-, h3⟩ | ⟨g, cap, cur, rfl, q2, q3, q4, q5, q6, q7⟩
  ·exact absurd h3 hnl
  have hbox : ∀ W, Below w2.heap.size w2 W → W.cell? ⟨w.heap.size, 0, none⟩ = some (.string s) := fun W hW => by
   have e1 : (w.alloc (.cells #[.string s] 9)).cell? ⟨w.heap.size, 0, none⟩ = some (.string s) := by go_simp
   have e2 : w2.cell? ⟨w.heap.size, 0, none⟩ = some (.string s) := cell_step e1 hb
   exact cell_step e2 hW
  have hcur : ∀ j, j < l.length → cur[j]? = some (.string (l.getD j ByteArray.empty)) := fun j hj => by
   have hj2 : (l.map Value.string)[j]? = some (.string (l.getD j ByteArray.empty)) := by
    rw [List.getElem?_map, List.getD_eq_getElem?_getD, List.getElem?_eq_getElem hj]; rfl
   rw [← q7, List.getElem?_take_of_lt (by simpa using hj)] at hj2
   simpa using hj2
  have hds : l.toArray.size = l.length := by simp
  have hH : Sort.Holds Value.string w2 g 0 l.toArray := fun j hj => by
   rw [hds] at hj
   refine ⟨?_, blk_free q3⟩
   rw [blk_cell q3 (by rw [Nat.zero_add]; exact hcur j hj)]
   simp [List.getD_eq_getElem?_getD, hj]
  have hp : PredAt Tryz.prog 140 #[.pointer (some ⟨w.heap.size, 0, none⟩)] Value.string (fun t => eqT t s) w2 := fun W x hW => without1_any s x w.heap.size W (hbox W hW)
  have hpo : PredOver Tryz.prog 140 #[.pointer (some ⟨w.heap.size, 0, none⟩)] Value.string (fun t => eqT t s) g 0 l.toArray.size w2 := fun n os dk x _ => without1_any s x w.heap.size _ (by
   unfold sortWorld
   have hlt : w.heap.size < w2.heap.size := by have := hb.size; rw [hsz] at this; omega
   rw [Sort.cell?_grow _ _ _ (by show w.heap.size < (Sort.putRow _ _ _ _ _).heap.size; rw [Sort.size_putRow]; exact hlt), Sort.cell?_putRow_other _ _ g 0 _ _ (Or.inl (by show w.heap.size ≠ g; omega))]
   exact hbox w2 (Below.refl _ _))
  have hcon := AnyE.slices_DeleteFunc laysSlH10_f90 Value.string (fun _ => rfl) (fun t => eqT t s) 140 #[.pointer (some ⟨w.heap.size, 0, none⟩)] eg ⟨#[]⟩ (fun w => Tryz.zeroValue9 w) g 0 cap l.toArray w2 hp hpo hH (by rw [hds]; omega) (by rw [hds]; omega)
  rw [hds] at hcon
  refine hcon.mono fun e w' q => ?_
  obtain ⟨rfl, q, rfl⟩ := q
  have hdr : (l.filter fun x => !(eqT x s)) = dropT l s := rfl
  rw [hdr]
  have hle : (dropT l s).length ≤ l.length := filt_len _ _
  refine ⟨_, rfl, ⟨_, cap, rfl, fun hne => ⟨g, 0, _, (0, 0), rfl, putRow_at (w := Sort.ahead w2 q) q3, fun k t hk => ?_⟩⟩, ?_⟩
  ·have hkl : k < (dropT l s).length := (List.getElem?_eq_some_iff.1 hk).1
   have hcl : k < cur.size := by rw [q6]; omega
   unfold Sort.putCells
   rw [Array.getElem?_mapIdx, Nat.zero_add, Array.getElem?_eq_getElem hcl]
   have hsz2 : (dropT l s ++ List.replicate (l.length - (dropT l s).length) (⟨#[]⟩ : ByteArray)).toArray.size = l.length := by simp; omega
   simp only [Option.map_some]
   rw [if_pos ⟨Nat.zero_le _, by rw [hsz2]; omega⟩, Nat.sub_zero]
   congr 2
   rw [getElem!_pos _ _ (by rw [hsz2]; omega)]
   simp only [List.getElem_toArray]
   rw [List.getElem_append_left hkl]
   rw [List.getElem?_eq_getElem hkl] at hk
   exact Option.some.inj hk
  ·have b1 : Below w.heap.size w w2 := bStep bAl hb
   exact b1.trans (Below.trans (b := Sort.ahead w2 q) ⟨rfl, rfl, rfl, Nat.le_refl _, fun _ _ => rfl⟩ (putRow_below (by omega)))
 clear h hn hl eg
 generalize dropT l s = r at *
 generalize l.map Value.string = xs at *
 generalize l.length = n at *
 go_enter Tryz.func107, Tryz.ntmps107
 go_wp2_with (first
  | (go_at_call 71; refine CC.out.mono ?_; rintro e w1 ⟨v', rfl, ho, hb⟩; have C2 := Lib.hid (CD.out v' w1 ho hb); clear ho hb)
  | (go_at_call 90; refine C2.out.mono ?_; rintro e w2 ⟨v2, rfl, hr, hb2⟩))
 go_ret
 exact ⟨_, rfl, hr, hb2⟩
end Go.Proofs.YtmpilgkfbibhlaaGreatDoor
namespace Go.Proofs.YtmpilgkfbibhlaaGreatDoor
open Go.RowKit
def WStep (w : World) : Type := { W : World // Below w.heap.size w W }
instance (w : World) : Nonempty (WStep w) := ⟨⟨w, Below.refl _ _⟩⟩
theorem wp_region_step {P : Program} {id : Nat} {Q : Exit → Act → World → Prop} {a : Act} {w : World} {l : List Oper} (hm : P.follows .mixedOrders = true) (hB : Region.lexB .any l.toArray = true)
  (h : wpQuiet P l.toArray (fun W => ∃ s : WStep w, W = s.1) (fun a' => ∀ w', (∃ s : WStep w, w' = s.1) → Q .normal a' w') l a) : (Code.region id l.toArray true).wp P Q a w :=
 wp_region_quiet (C := fun W => ∃ s : WStep w, W = s.1) hm hB ⟨⟨w.drew, (Below.refl _ _).drew⟩, rfl⟩ (by simpa using h)
theorem step_call {P : Program} {f : FuncId} {args : Array Value} {w : World} {v : Value} (s : WStep w) (h : Calls P f args s.1 fun e w' => e = .returned v ∧ Below s.1.heap.size s.1 w') :
  Calls P f args s.1 fun e w' => e = .returned v ∧ ∃ t : WStep w, w' = t.1 := h.mono fun _ w' q => ⟨q.1, ⟨w', bStep s.2 q.2⟩, rfl⟩
end Go.Proofs.YtmpilgkfbibhlaaGreatDoor
namespace Go.Proofs.YtmpilgkfbibhlaaGreatDoor
open Go.RowKit Mr
def evX : Evt → Value
  | (k, t, a, b, nm, ot) => .agg #[.int .i64 k, .int .i64 t, .int .i64 a, .int .i64 b, .string nm, .string ot]
def lifeCs (name : ByteArray) (x : LifeS) (vm vo : Value) : List Value :=
  [.string name, .int .i64 (x.n : Int), .int .i64 x.at_, .int .i64 x.made.1, .int .i64 x.made.2.1, .int .i64 x.made.2.2.1, .int .i64 x.made.2.2.2.1, .string x.made.2.2.2.2.1, .string x.made.2.2.2.2.2, vm, vo,
   .int .i64 x.thr, .int .i64 x.hot, .bool x.tst, .int .i64 x.tes, .int .i64 x.fau, .int .i64 x.mov, .bool x.scr]
structure LifeAt (T : TypeId) (B off : Nat) (name : ByteArray) (x : LifeS) (vm vo : Value) (W : World) : Prop where
  blk : ∃ cs : Array Value, W.heap[B]? = some (.cells cs T (0, 0)) ∧ ∀ (j : Nat) (u : Value), (lifeCs name x vm vo)[j]? = some u → cs[off + j]? = some u
  ms : SRow vm x.ms W
  os : SRow vo x.os W
section
variable {T : TypeId} {B off : Nat} {name : ByteArray} {x : LifeS} {vm vo : Value} {W w2 : World}
theorem LifeAt.step (h : LifeAt T B off name x vm vo W) (hb : Below W.heap.size W w2) : LifeAt T B off name x vm vo w2 := by
  obtain ⟨⟨cs, h1, h2⟩, h3, h4⟩ := h
  exact ⟨⟨cs, blk_step h1 hb, h2⟩, h3.step hb, h4.step hb⟩
theorem LifeAt.cell (h : LifeAt T B off name x vm vo W) {j : Nat} {u : Value} (hj : (lifeCs name x vm vo)[j]? = some u) : W.cell? ⟨B, off + j, none⟩ = some u := by
  obtain ⟨⟨cs, h1, h2⟩, h3, h4⟩ := h
  exact blk_cell h1 (h2 j u hj)
theorem LifeAt.lt (h : LifeAt T B off name x vm vo W) : B < W.heap.size := by
  obtain ⟨⟨cs, h1, h2⟩, h3, h4⟩ := h
  exact blk_lt h1
theorem LifeAt.free (h : LifeAt T B off name x vm vo W) (j : Nat) : W.frozen? ⟨B, off + j, none⟩ = false := by
  obtain ⟨⟨cs, h1, h2⟩, h3, h4⟩ := h
  exact blk_free h1
theorem LifeAt.open1 (h : LifeAt T B off name x vm vo W) : W.cell? ⟨B, off, none⟩ = some (.string name) ∧ W.cell? ⟨B, off + 1, none⟩ = some (.int .i64 (x.n : Int)) ∧ W.cell? ⟨B, off + 2, none⟩ = some (.int .i64 x.at_) ∧ W.cell? ⟨B, off + 9, none⟩ = some vm ∧ W.cell? ⟨B, off + 10, none⟩ = some vo ∧ W.cell? ⟨B, off + 17, none⟩ = some (.bool x.scr) ∧ B < W.heap.size :=
  ⟨h.cell (j := 0) rfl, h.cell (j := 1) rfl, h.cell (j := 2) rfl, h.cell (j := 9) rfl, h.cell (j := 10) rfl, h.cell (j := 17) rfl, h.lt⟩
end
set_option maxHeartbeats 4000000 in
theorem can_first {T : TypeId} {B off : Nat} {name : ByteArray} {x : LifeS} {vm vo : Value} {w : World} (h : LifeAt T B off name x vm vo w) (hn : x.n = 0) (k t a b : Int) (nm ot : ByteArray) :
    Calls Tryz.prog 43 #[.pointer (some ⟨B, off, none⟩), .agg #[.int .i64 k, .int .i64 t, .int .i64 a, .int .i64 b, .string nm, .string ot]] w fun e w' => e = .returned (.bool (decide (k = 1))) ∧ Below w.heap.size w w' := by
  obtain ⟨c0, c1, c2, c9, c10, c17, cl⟩ := h.open1
  replace c1 : w.cell? ⟨B, off + 1, none⟩ = some (.int .i64 0) := by rw [hn] at c1; exact c1
  clear h hn
  go_enter Tryz.func43, Tryz.ntmps43
  go_wp2_with fail
  go_ret
  exact ⟨rfl, (by repeat' (first | exact Below.refl _ _ | assumption | apply bDrewN | apply bDrew | apply bAlloc | (refine bSet ?_ ?_ _) | (refine bStep ?_ (by assumption)) | omega | (simp <;> omega)))⟩
set_option maxHeartbeats 4000000 in
theorem can_late {T : TypeId} {B off : Nat} {name : ByteArray} {x : LifeS} {vm vo : Value} {w : World} (h : LifeAt T B off name x vm vo w) (hn : ¬ x.n = 0) (k t a b : Int) (nm ot : ByteArray) (ht : t < x.at_ ∨ (¬ t < x.at_ ∧ x.scr = true)) :
    Calls Tryz.prog 43 #[.pointer (some ⟨B, off, none⟩), .agg #[.int .i64 k, .int .i64 t, .int .i64 a, .int .i64 b, .string nm, .string ot]] w fun e w' => e = .returned (.bool false) ∧ Below w.heap.size w w' := by
  obtain ⟨c0, c1, c2, c9, c10, c17, cl⟩ := h.open1
  have hn2 : ((x.n : Int) == 0) = false := by simpa using hn
  rcases ht with ht | ⟨ht, hs⟩
  · clear h hn
    go_enter Tryz.func43, Tryz.ntmps43
    go_upto_region 3 with fail
    go_quiet (fail)
    go_wp2_with fail
    go_ret
    exact ⟨rfl, (by repeat' (first | exact Below.refl _ _ | assumption | apply bDrewN | apply bDrew | apply bAlloc | (refine bSet ?_ ?_ _) | (refine bStep ?_ (by assumption)) | omega | (simp <;> omega)))⟩
  · rw [hs] at c17
    have ht2 : decide (t < x.at_) = false := decide_eq_false ht
    clear h hn hs ht
    go_enter Tryz.func43, Tryz.ntmps43
    go_upto_region 3 with fail
    go_quiet (fail)
    go_wp2_with fail
    go_ret
    exact ⟨rfl, (by repeat' (first | exact Below.refl _ _ | assumption | apply bDrewN | apply bDrew | apply bAlloc | (refine bSet ?_ ?_ _) | (refine bStep ?_ (by assumption)) | omega | (simp <;> omega)))⟩
structure CanB (bx be B off : Nat) (k t a b : Int) (nm ot : ByteArray) (W : World) : Prop where
  p : W.cell? ⟨bx, 0, none⟩ = some (.pointer (some ⟨B, off, none⟩))
  e0 : W.cell? ⟨be, 0, none⟩ = some (.int .i64 k)
  e4 : W.cell? ⟨be, 4, none⟩ = some (.string nm)
  e5 : W.cell? ⟨be, 5, none⟩ = some (.string ot)
  l1 : bx < W.heap.size
  l2 : be < W.heap.size
theorem CanB.step {bx be B off : Nat} {k t a b : Int} {nm ot : ByteArray} {W w2 : World} (h : CanB bx be B off k t a b nm ot W) (hb : Below W.heap.size W w2) : CanB bx be B off k t a b nm ot w2 :=
  ⟨cell_step h.p hb, cell_step h.e0 hb, cell_step h.e4 hb, cell_step h.e5 hb, Nat.lt_of_lt_of_le h.l1 hb.size, Nat.lt_of_lt_of_le h.l2 hb.size⟩
theorem has_step {v : Value} {l : List ByteArray} {w : World} (h : SRow v l w) (hl : l.length ≤ 1000000) (s : ByteArray) : Hid (∀ W : WStep w, Calls Tryz.prog 99 #[v, .string s] W.1 fun e w' => e = .returned (.bool (hasT l s)) ∧ ∃ t : WStep w, w' = t.1) :=
  fun W => (has_any (h.step W.2) hl s).mono fun e w' q => ⟨q.1, W, q.2⟩
set_option maxHeartbeats 2000000 in
theorem can2_any {T : TypeId} {B off : Nat} {name : ByteArray} {x : LifeS} {vm vo : Value} {w : World} (h : LifeAt T B off name x vm vo w) (bx be : Nat) (k t a b : Int) (nm ot : ByteArray) (hb : CanB bx be B off k t a b nm ot w) (hl : x.ms.length ≤ 1000000) :
    Calls Tryz.prog 98 #[.pointer (some ⟨bx, 0, none⟩), .pointer (some ⟨be, 0, none⟩)] w fun e w' => e = .returned (.bool (!(hasT x.ms nm) && decide (x.ms.length < 32) && !(eqT ot name))) ∧ Below w.heap.size w w' := by
  have CX := has_step h.ms hl nm
  obtain ⟨am, cm, rfl, -⟩ := h.ms
  unfold eqT
  have QL : ∀ s : WStep w, LifeAt T B off name x _ _ s.1 := fun s => h.step s.2
  have QB : ∀ s : WStep w, CanB bx be B off k t a b nm ot s.1 := fun s => hb.step s.2
  have c0 := fun s => (QL s).open1.1
  have c9 := fun s => (QL s).open1.2.2.2.1
  have c10 := fun s => (QL s).open1.2.2.2.2.1
  have p0 := fun s => (QB s).p
  have p4 := fun s => (QB s).e4
  have p5 := fun s => (QB s).e5
  clear QL QB
  clear hl h hb
  generalize hasT x.ms nm = r1 at *
  cases r1
  · by_cases hc : x.ms.length < 32
    · rw [decide_eq_true hc]
      have hc2 : (x.ms.length : Int) < 32 := by omega
      clear hc
      go_enter Tryz.func98, Tryz.ntmps98
      go_upto_region 1 with fail
      refine wp_region_step (by kernel_rfl) (by kernel_rfl) ?_
      repeat (quiet_step (with_reducible exact CX.out _))
      refine wpQuiet_nil ?_
      intro W2 hw'
      obtain ⟨⟨W3, hW3⟩, hw''⟩ := hw'
      dsimp only at hw''
      subst hw''
      go_wp2_with fail
      go_ret
      exact ⟨rfl, hW3⟩
    · rw [decide_eq_false hc]
      have hc2 : ¬ (x.ms.length : Int) < 32 := by omega
      clear hc
      go_enter Tryz.func98, Tryz.ntmps98
      go_upto_region 1 with fail
      refine wp_region_step (by kernel_rfl) (by kernel_rfl) ?_
      repeat (quiet_step (with_reducible exact CX.out _))
      refine wpQuiet_nil ?_
      intro W2 hw'
      obtain ⟨⟨W3, hW3⟩, hw''⟩ := hw'
      dsimp only at hw''
      subst hw''
      go_wp2_with fail
      go_ret
      exact ⟨rfl, hW3⟩
  · go_enter Tryz.func98, Tryz.ntmps98
    go_upto_region 1 with fail
    refine wp_region_step (by kernel_rfl) (by kernel_rfl) ?_
    repeat (quiet_step (with_reducible exact CX.out _))
    refine wpQuiet_nil ?_
    intro W2 hw'
    obtain ⟨⟨W3, hW3⟩, hw''⟩ := hw'
    dsimp only at hw''
    subst hw''
    go_wp2_with fail
    go_ret
    exact ⟨rfl, hW3⟩
set_option maxHeartbeats 2000000 in
theorem can3_any {T : TypeId} {B off : Nat} {name : ByteArray} {x : LifeS} {vm vo : Value} {w : World} (h : LifeAt T B off name x vm vo w) (bx be : Nat) (k t a b : Int) (nm ot : ByteArray) (hb : CanB bx be B off k t a b nm ot w) (hl : x.ms.length ≤ 1000000) :
    Calls Tryz.prog 100 #[.pointer (some ⟨bx, 0, none⟩), .pointer (some ⟨be, 0, none⟩)] w fun e w' => e = .returned (.bool (hasT x.ms nm && !(eqT ot name))) ∧ Below w.heap.size w w' := by
  have CX := has_step h.ms hl nm
  unfold eqT
  have QL : ∀ s : WStep w, LifeAt T B off name x _ _ s.1 := fun s => h.step s.2
  have QB : ∀ s : WStep w, CanB bx be B off k t a b nm ot s.1 := fun s => hb.step s.2
  have c0 := fun s => (QL s).open1.1
  have c9 := fun s => (QL s).open1.2.2.2.1
  have c10 := fun s => (QL s).open1.2.2.2.2.1
  have p0 := fun s => (QB s).p
  have p4 := fun s => (QB s).e4
  have p5 := fun s => (QB s).e5
  clear QL QB
  clear hl h hb
  generalize hasT x.ms nm = r1 at *
  cases r1
  · go_enter Tryz.func100, Tryz.ntmps100
    go_upto_region 1 with fail
    refine wp_region_step (by kernel_rfl) (by kernel_rfl) ?_
    repeat (quiet_step (with_reducible exact CX.out _))
    refine wpQuiet_nil ?_
    intro W2 hw'
    obtain ⟨⟨W3, hW3⟩, hw''⟩ := hw'
    dsimp only at hw''
    subst hw''
    go_wp2_with fail
    go_ret
    exact ⟨rfl, hW3⟩
  · go_enter Tryz.func100, Tryz.ntmps100
    go_upto_region 1 with fail
    refine wp_region_step (by kernel_rfl) (by kernel_rfl) ?_
    repeat (quiet_step (with_reducible exact CX.out _))
    refine wpQuiet_nil ?_
    intro W2 hw'
    obtain ⟨⟨W3, hW3⟩, hw''⟩ := hw'
    dsimp only at hw''
    subst hw''
    go_wp2_with fail
    go_ret
    exact ⟨rfl, hW3⟩
set_option maxHeartbeats 2000000 in
theorem can4_any {T : TypeId} {B off : Nat} {name : ByteArray} {x : LifeS} {vm vo : Value} {w : World} (h : LifeAt T B off name x vm vo w) (bx be : Nat) (k t a b : Int) (nm ot : ByteArray) (hb : CanB bx be B off k t a b nm ot w) (hl : x.os.length ≤ 1000000) :
    Calls Tryz.prog 101 #[.pointer (some ⟨bx, 0, none⟩), .pointer (some ⟨be, 0, none⟩)] w fun e w' => e = .returned (.bool (!(hasT x.os nm))) ∧ Below w.heap.size w w' := by
  have CX := has_step h.os hl nm
  have QL : ∀ s : WStep w, LifeAt T B off name x _ _ s.1 := fun s => h.step s.2
  have QB : ∀ s : WStep w, CanB bx be B off k t a b nm ot s.1 := fun s => hb.step s.2
  have c0 := fun s => (QL s).open1.1
  have c9 := fun s => (QL s).open1.2.2.2.1
  have c10 := fun s => (QL s).open1.2.2.2.2.1
  have p0 := fun s => (QB s).p
  have p4 := fun s => (QB s).e4
  have p5 := fun s => (QB s).e5
  clear QL QB
  clear hl h hb
  generalize hasT x.os nm = r1 at *
  go_enter Tryz.func101, Tryz.ntmps101
  go_upto_region 1 with fail
  refine wp_region_step (by kernel_rfl) (by kernel_rfl) ?_
  repeat (quiet_step (with_reducible exact CX.out _))
  refine wpQuiet_nil ?_
  intro W2 hw'
  obtain ⟨⟨W3, hW3⟩, hw''⟩ := hw'
  dsimp only at hw''
  subst hw''
  go_wp2_with fail
  go_ret
  exact ⟨rfl, hW3⟩
set_option maxHeartbeats 2000000 in
theorem can5_any {T : TypeId} {B off : Nat} {name : ByteArray} {x : LifeS} {vm vo : Value} {w : World} (h : LifeAt T B off name x vm vo w) (bx be : Nat) (k t a b : Int) (nm ot : ByteArray) (hb : CanB bx be B off k t a b nm ot w) (hl : x.os.length ≤ 1000000) :
    Calls Tryz.prog 102 #[.pointer (some ⟨bx, 0, none⟩), .pointer (some ⟨be, 0, none⟩)] w fun e w' => e = .returned (.bool (hasT x.os nm)) ∧ Below w.heap.size w w' := by
  have CX := has_step h.os hl nm
  have QL : ∀ s : WStep w, LifeAt T B off name x _ _ s.1 := fun s => h.step s.2
  have QB : ∀ s : WStep w, CanB bx be B off k t a b nm ot s.1 := fun s => hb.step s.2
  have c0 := fun s => (QL s).open1.1
  have c9 := fun s => (QL s).open1.2.2.2.1
  have c10 := fun s => (QL s).open1.2.2.2.2.1
  have p0 := fun s => (QB s).p
  have p4 := fun s => (QB s).e4
  have p5 := fun s => (QB s).e5
  clear QL QB
  clear hl h hb
  generalize hasT x.os nm = r1 at *
  go_enter Tryz.func102, Tryz.ntmps102
  go_upto_region 1 with fail
  refine wp_region_step (by kernel_rfl) (by kernel_rfl) ?_
  repeat (quiet_step (with_reducible exact CX.out _))
  refine wpQuiet_nil ?_
  intro W2 hw'
  obtain ⟨⟨W3, hW3⟩, hw''⟩ := hw'
  dsimp only at hw''
  subst hw''
  go_wp2_with fail
  go_ret
  exact ⟨rfl, hW3⟩
set_option maxHeartbeats 2000000 in
theorem can6_any {T : TypeId} {B off : Nat} {name : ByteArray} {x : LifeS} {vm vo : Value} {w : World} (h : LifeAt T B off name x vm vo w) (bx be : Nat) (k t a b : Int) (nm ot : ByteArray) (hb : CanB bx be B off k t a b nm ot w) :
    Calls Tryz.prog 103 #[.pointer (some ⟨bx, 0, none⟩)] w fun e w' => e = .returned (.bool (decide (x.ms.length = 0))) ∧ Below w.heap.size w w' := by
  obtain ⟨am, cm, rfl, -⟩ := h.ms
  have c9 := h.open1.2.2.2.1
  have p0 := hb.p
  have cl := h.lt
  have hd : decide (x.ms.length = 0) = ((x.ms.length : Int) == 0) := by
    by_cases e : x.ms.length = 0
    · rw [decide_eq_true e, e]; rfl
    · rw [decide_eq_false e]; symm; simpa using e
  rw [hd]
  clear h hb hd
  go_enter Tryz.func103, Tryz.ntmps103
  go_wp2_with fail
  go_ret
  exact ⟨rfl, Below.refl _ _⟩
theorem can1_any (w : World) : Calls Tryz.prog 97 #[] w fun e w' => e = .returned (.bool false) ∧ Below w.heap.size w w' := by
  go_enter Tryz.func97, Tryz.ntmps97
  go_wp2_with fail
  go_ret
  exact ⟨rfl, Below.refl _ _⟩
end Go.Proofs.YtmpilgkfbibhlaaGreatDoor
namespace Go.Proofs.YtmpilgkfbibhlaaGreatDoor
open Go.RowKit Mr
theorem raw_ok (e : Evt) (w : World) (hok : okX e = true) (h1 : e.2.2.2.2.1.size ≤ 100 ∧ e.2.2.2.2.2.size ≤ 100) :
  Calls Tryz.prog 105 #[evX e] w fun en w' => ∃ p c, en = .returned (.slice p (bytX e).length c) ∧ BytV p (bytX e) w' ∧ Below w.heap.size w w' := by
 obtain ⟨k, t, a, b, nm, ot⟩ := e
 change okE k t a b nm ot = true at hok
 obtain ⟨he, -, -⟩ := okE_ev hok
 have q1 := he.k; have q2 := he.t; have q3 := he.a; have q4 := he.b
 unfold evL at q1 q2 q3 q4
 dsimp only at q1 q2 q3 q4 h1
 obtain ⟨k, rfl⟩ := Int.eq_ofNat_of_zero_le (show 0 ≤ k by omega)
 obtain ⟨t, rfl⟩ := Int.eq_ofNat_of_zero_le (show 0 ≤ t by omega)
 obtain ⟨a, rfl⟩ := Int.eq_ofNat_of_zero_le (show 0 ≤ a by omega)
 obtain ⟨b, rfl⟩ := Int.eq_ofNat_of_zero_le (show 0 ≤ b by omega)
 refine (raw_any k t a b nm ot w ⟨by omega, by omega⟩ (by omega) (by omega) (by omega) h1.1 h1.2).mono fun e w' h => ?_
 obtain ⟨v, rfl, hv, hb⟩ := h
 rw [bytesE_is] at hv
 obtain ⟨p, c, rfl, hB⟩ := own_byt hv
 exact ⟨p, c, rfl, hB, hb⟩
theorem bytX_byt (e : Evt) (hok : okX e = true) (h1 : e.2.2.2.2.1.size ≤ 100 ∧ e.2.2.2.2.2.size ≤ 100) : Byt (bytX e) := by
 obtain ⟨k, t, a, b, nm, ot⟩ := e
 change okE k t a b nm ot = true at hok
 have O1 := okE_ev hok
 exact bytesE_byt (e := evL k t a b nm ot) O1.1.k.2 (by have := h1.1; rw [Lib.size_eq] at this; exact this) (by have := h1.2; rw [Lib.size_eq] at this; exact this)
theorem byt_news {p : Option Addr} {m : List Nat} {W : World} (h : BytV p m W) : m.length * 1 ≠ 0 → ∃ q off, p = some ⟨q, off, none⟩ ∧ ∀ (j : Nat) (u : Value), (byC m)[j]? = some u → W.cell? ⟨q, off + j, none⟩ = some u := fun hm => by
 obtain ⟨b, off, rfl, -, h2⟩ := h (by rintro rfl; simp at hm)
 refine ⟨b, off, rfl, fun j u hj => ?_⟩
 unfold byC at hj
 rw [List.getElem?_map] at hj
 cases hq : m[j]? with
 | none => rw [hq] at hj; cases hj
 | some n =>
  rw [hq] at hj
  simp at hj
  rw [h2 j (List.getElem?_eq_some_iff.1 hq).1, List.getD_eq_getElem?_getD, hq, ← hj]
  rfl
theorem u8_nat (n : Nat) : IntKind.u8.wrap (n : Int) = ((n % 256 : Nat) : Int) := by
 show (n : Int) % 256 = _
 omega
structure Nx1 (W0 : World) (m : List Nat) (b0 b1 : Bool) (v0 v1 : Value) (W : World) : Prop where
 bel : Below W0.heap.size W0 W
 r0 : b0 = true → W.ownsRow W0.heap.size 5 1 v0 m.length (byC m)
 r1 : b1 = true → v1 = v0
 n : b0 = false → b1 = false
end Go.Proofs.YtmpilgkfbibhlaaGreatDoor
