/-
 slices.DeleteFunc over texts that are empty; what Join makes of the rest.
-/
import Derived.Test.YtmpilgkfbibhlaaGreatDoorG2R
import Derived.Test.YtmpilgkfbibhlaaGreatDoorG11R
set_option linter.unusedSimpArgs false
set_option linter.unusedVariables false
namespace Go.Proofs.YtmpilgkfbibhlaaGreatDoor
open Go.RowKit Mr
def fullT (l : List ByteArray) : List ByteArray := l.filter fun x => !(x.toList == [])
set_option maxHeartbeats 1000000 in
theorem del_empty {B : Nat} {v : Value} {l : List ByteArray} {w : World} (ho : w.ownsRow B 9 1 v l.length (l.map Value.string)) (hn : l ≠ []) (hB : B ≤ w.heap.size) (hl : l.length ≤ 1000000) :
  Calls Tryz.prog 90 #[v, .func (.func 91) #[] #[]] w fun e w' => ∃ b c, e = .returned (.slice (some ⟨b, 0, none⟩) (fullT l).length c) ∧ (fullT l).length ≤ c ∧ b < w'.heap.size ∧ (∀ (k : Nat) (t : ByteArray), (fullT l)[k]? = some t → w'.cell? ⟨b, k, none⟩ = some (.string t)) ∧ Below B w w' := by
 have eg : ∀ args w, (callFunc 91 args).run Tryz.prog w = .ok (.enter 91 args) w := enters_of Tryz.func91 (by kernel_rfl) rfl
 obtain ⟨-, h2⟩ := ho
 have hnl : l.length ≠ 0 := fun e => hn (List.length_eq_zero_iff.1 e)
 rcases h2 with ⟨-, h3⟩ | ⟨g, cap, cur, rfl, q2, q3, q4, q5, q6, q7⟩
 ·exact absurd h3 hnl
 have hcur : ∀ j, j < l.length → cur[j]? = some (.string (l.getD j ByteArray.empty)) := fun j hj => by
  have hj2 : (l.map Value.string)[j]? = some (.string (l.getD j ByteArray.empty)) := by
   rw [List.getElem?_map, List.getD_eq_getElem?_getD, List.getElem?_eq_getElem hj]; rfl
  rw [← q7, List.getElem?_take_of_lt (by simpa using hj)] at hj2
  simpa using hj2
 have hds : l.toArray.size = l.length := by simp
 have hH : Sort.Holds Value.string w g 0 l.toArray := fun j hj => by
  rw [hds] at hj
  refine ⟨?_, blk_free q3⟩
  rw [blk_cell q3 (by rw [Nat.zero_add]; exact hcur j hj)]
  simp [List.getD_eq_getElem?_getD, hj]
 have hcl : ∀ (x : ByteArray) (W : World), Calls Tryz.prog 91 #[.string x] W fun e w' => e = .returned (.bool (x.toList == [])) ∧ ∃ q, w' = W.drewN q := by
  intro x W
  go_enter Tryz.func91, Tryz.ntmps91
  go_wp2
  go_ret
  exact ⟨by first | rfl | (simp; done), 0, rfl⟩
 have hp : PredAt Tryz.prog 91 #[] Value.string (fun t => t.toList == []) w := fun W x hW => hcl x W
 have hpo : PredOver Tryz.prog 91 #[] Value.string (fun t => t.toList == []) g 0 l.toArray.size w := fun n os dk x _ => hcl x _
 have hcon := AnyE.slices_DeleteFunc laysSlH10_f90 Value.string (fun _ => rfl) (fun t => t.toList == []) 91 #[] eg ⟨#[]⟩ (fun w => Tryz.zeroValue9 w) g 0 cap l.toArray w hp hpo hH (by rw [hds]; omega) (by rw [hds]; omega)
 rw [hds] at hcon
 refine hcon.mono fun e w' q => ?_
 obtain ⟨rfl, q, rfl⟩ := q
 have hdr : (l.filter fun x => !(x.toList == [])) = fullT l := rfl
 rw [hdr]
 have hle : (fullT l).length ≤ l.length := filt_len _ _
 have hb := putRow_at (enc := Value.string) (b := g) (off := 0) (d := (fullT l ++ List.replicate (l.length - (fullT l).length) (⟨#[]⟩ : ByteArray)).toArray) (w := Sort.ahead w q) q3
 refine ⟨g, cap, rfl, by omega, blk_lt hb, fun k t hk => blk_cell hb ?_, Below.trans (b := Sort.ahead w q) ⟨rfl, rfl, rfl, Nat.le_refl _, fun _ _ => rfl⟩ (putRow_below (by omega))⟩
 have hkl : k < (fullT l).length := (List.getElem?_eq_some_iff.1 hk).1
 have hcl2 : k < cur.size := by rw [q6]; omega
 unfold Sort.putCells
 rw [Array.getElem?_mapIdx, Array.getElem?_eq_getElem hcl2]
 have hsz2 : (fullT l ++ List.replicate (l.length - (fullT l).length) (⟨#[]⟩ : ByteArray)).toArray.size = l.length := by simp; omega
 simp only [Option.map_some]
 rw [if_pos ⟨Nat.zero_le _, by rw [hsz2]; omega⟩, Nat.sub_zero]
 congr 2
 rw [getElem!_pos _ _ (by rw [hsz2]; omega)]
 simp only [List.getElem_toArray]
 rw [List.getElem_append_left hkl]
 rw [List.getElem?_eq_getElem hkl] at hk
 exact Option.some.inj hk
end Go.Proofs.YtmpilgkfbibhlaaGreatDoor
