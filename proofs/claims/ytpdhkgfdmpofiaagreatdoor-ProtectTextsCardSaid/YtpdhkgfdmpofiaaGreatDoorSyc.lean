/-
  clear, of a part of a row that is written out.
-/
import Derived.Test.YtpdhkgfdmpofiaaGreatDoorSx7
set_option linter.unusedSimpArgs false
set_option linter.unusedVariables false
namespace Go.Proofs.YtpdhkgfdmpofiaaGreatDoor
namespace Sx
open Go.RowKit
section
variable {P : Program} {σ : St} {o : Oper} {tb : Tb}
def clearS (tb : Tb) (σ : St) (t : TypeId) (v : Sv) : Tree OpE := match tb.und t, v with
  | some (.slice el), .one (.slc id (.lit off) (.lit (n + 1)) _) => match zeroL tb el, alook σ.bk id with
    | some [z], some (.ar _ false l _) => match Nat.ble (off + (n + 1)) l.length && z.plainB with
      | true => .leaf ⟨some (.tup []), [.k id], cellWrs id off (List.replicate (n + 1) z)⟩
      | false => .fail
    | _, _ => .fail
  | some (.slice _), .one (.slc _ _ (.lit 0) _) => valT (.tup [])
  | some (.slice _), .one (.val (.slice none _ _)) => valT (.tup [])
  | _, _ => .fail
theorem zeroCells_one (z : Value) (n : Nat) : (Builtin.zeroCells #[z] n).toList = List.replicate n z := by
  unfold Builtin.zeroCells
  apply List.ext_getElem?
  intro i
  rw [Array.toList_map, List.getElem?_map, List.getElem?_replicate]
  simp only [List.size_toArray, List.length_cons, List.length_nil, Nat.zero_add, Nat.mul_one, Array.toList_range]
  by_cases h : i < n
  · rw [List.getElem?_range h, if_pos h]
    simp [Nat.mod_one]
  · rw [List.getElem?_eq_none (by simpa using h), if_neg h]; rfl
theorem clearS_ok (hT : TbOk P tb) {x : Operand} {t : TypeId} {v : Sv} (ho : o.op = .call { callee := .builtin .clear, args := #[x], argTypes := #[t] }) (hx : evO σ x = some v) : TreeOk P σ o (clearS tb σ t v) := by
  have go : (∀ (e : Env) (w : World), (Builtin.clear_ #[t] o.type #[v.den e]).run P w = .ok (.tuple #[]) w) → TreeOk P σ o (valT (.tup [])) := by
    intro h
    refine TreeOk.val fun s e a w hh => ⟨?_, fun p hp => by cases hp⟩
    obtain ⟨x1, _⟩ := hh x (by rw [ho]; simp [Op.operands, Call.operands]) _ hx
    rw [run_builtin ho]
    simp only [List.map_toArray, List.map_cons, List.map_nil, x1]
    exact runV (h e w)
  unfold clearS
  split
  · rename_i el id off n cap hu
    split
    · rename_i z t' l cp hz hb
      split
      · rename_i hc
        simp only [Bool.and_eq_true] at hc
        obtain ⟨hle, hpl⟩ := hc
        rw [Nat.ble_eq] at hle
        refine TreeOk.leaf fun C e s a w hp hh hl => ?_
        obtain ⟨x1, x2⟩ := hh x (by rw [ho]; simp [Op.operands, Call.operands]) _ hx
        have h1 : s (.k id) = some (.bk (.ar t' false l.length cp)) := by rw [hl _ (by simp)]; simp only [look, hb]; rfl
        obtain ⟨zv, z1, z2, z3⟩ := zeroL_run hT hz w
        have hzc : zv.cells = #[z.den e] := by rw [z2 e]; rfl
        obtain ⟨w', k1, k2⟩ := storeCells_run (P := P) off (List.replicate (n + 1) z) 0 s w hp h1 (by simp; omega) (fun c hc => by
          obtain rfl := (List.mem_replicate.1 hc).2
          exact z3 s _ (by simp)) (fun c hc => by
          obtain rfl := (List.mem_replicate.1 hc).2
          exact hpl)
        refine ⟨.value (.tuple #[]), e, w', ?_, Agree.refl _ _, by simpa using k2, rfl, fun p hp => by cases hp⟩
        rw [run_builtin ho]
        simp only [List.map_toArray, List.map_cons, List.map_nil, x1]
        refine runV ?_
        show (Builtin.clear_ #[t] o.type #[.slice (some (e.ad id off)) (n + 1) (cap.den e)]).run P w = _
        have hst : (storeCells (e.ad id off) (Builtin.zeroCells #[z.den e] (n + 1)).toList 0).run P w = .ok () w' := by
          rw [zeroCells_one, ← k1, List.map_replicate]
        simp [Builtin.clear_, run_und hT hu, z1, hzc, hst]
      · exact TreeOk.fail
    · exact TreeOk.fail
  · rename_i el id off cap hu
    exact go fun e w => by simp [Builtin.clear_, run_und hT hu, Sv.den, Cv.den, Sn.den]
  · rename_i el q n hu
    exact go fun e w => by simp [Builtin.clear_, run_und hT hu, Sv.den, Cv.den]
  · exact TreeOk.fail
end
end Sx
end Go.Proofs.YtpdhkgfdmpofiaaGreatDoor
