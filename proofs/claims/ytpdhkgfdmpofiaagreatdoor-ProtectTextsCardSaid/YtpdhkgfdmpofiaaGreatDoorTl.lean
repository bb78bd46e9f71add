/-
  strings.Join, strings.Split; rows of texts.
-/
import Derived.Test.YtpdhkgfdmpofiaaGreatDoorTr
import Derived.Test.YtpdhkgfdmpofiaaGreatDoorTa
import Derived.Test.YtpdhkgfdmpofiaaGreatDoorQs
import Derived.Lib.Join
import Derived.Lib.CountLaws
set_option linter.unusedSimpArgs false
set_option linter.unusedVariables false
namespace Go.Proofs.YtpdhkgfdmpofiaaGreatDoor
open Sx Go.RowKit
theorem join_any (bk o c : Nat) (xs : List ByteArray) (sep : ByteArray) (w : World) (hcells : ∀ (j : Nat) x, xs[j]? = some x → w.cell? ⟨bk, o + j, none⟩ = some (.string x)) (hbk : bk < w.heap.size) (hN : xs.length ≤ 140737488355328) (hcap : xs.length ≤ c) (hlen : (Lib.join (xs.map (·.data.toList)) sep.data.toList).length ≤ 140737488355328) :
    Calls Tryz.prog 17 #[.slice (some ⟨bk, o, none⟩) xs.length c, .string sep] w fun e w' => e = .returned (.string ⟨(Lib.join (xs.map (·.data.toList)) sep.data.toList).toArray⟩) ∧ Below w.heap.size w w' :=
  Any.strings_Join lays156 Builder_Extra_156 bk o c xs sep w hcells hbk hN hcap hlen
/-- A row of texts that the call made. -/
def StOwn (W : World) (B : Nat) (v : Value) (ts : List ByteArray) : Prop := W.ownsRow B 9 1 v ts.length (ts.map Value.string)
theorem StOwn.nil {W : World} {B : Nat} : StOwn W B (.slice none 0 0) [] := ⟨rfl, Or.inl ⟨rfl, rfl⟩⟩
theorem StOwn.step {W w2 : World} {B : Nat} {v : Value} {ts : List ByteArray} (h : StOwn W B v ts) (hb : Below W.heap.size W w2) : StOwn w2 B v ts := own_step h hb
theorem StOwn.more {W : World} {B : Nat} {v : Value} {ts : List ByteArray} {t : ByteArray} (h : W.ownsRow B 9 1 v (ts.length + 1) (ts.map Value.string ++ [.string t])) : StOwn W B v (ts ++ [t]) := by
  unfold StOwn
  rw [List.map_append, List.length_append]
  exact h
theorem StOwn.cells {W : World} {B : Nat} {v : Value} {ts : List ByteArray} (h : StOwn W B v ts) (hn : ts ≠ []) : ∃ g c, v = .slice (some ⟨g, 0, none⟩) ts.length c ∧ ts.length ≤ c ∧ g < W.heap.size ∧ ∀ (j : Nat) x, ts[j]? = some x → W.cell? ⟨g, 0 + j, none⟩ = some (.string x) := by
  obtain ⟨h1, h2⟩ := h
  rcases h2 with ⟨-, h2⟩ | ⟨g, cap, cur, rfl, q2, q3, q4, q5, q6, q7⟩
  · exact absurd (List.length_eq_zero_iff.1 h2) hn
  · refine ⟨g, cap, rfl, q4, blk_lt q3, fun j x hj => ?_⟩
    have hjl := (List.getElem?_eq_some_iff.1 hj).1
    have : (cur.toList.take (ts.length * 1))[j]? = (ts.map Value.string)[j]? := by rw [q7]
    rw [List.getElem?_take_of_lt (by omega), List.getElem?_map, hj] at this
    exact blk_cell q3 (by simpa using this)
theorem infoS : (Tryz.prog.info? 9).map (fun i => (i.zero, i.size, i.bytes)) = some (some (.string ⟨#[]⟩), 1, 16) := by kernel_rfl
theorem one_oneS (x : ByteArray) : ∀ u ∈ [Value.string x], u.oneCell' = true := by
  intro u hu
  simp at hu
  rw [hu]; rfl
theorem one_cellS {W : World} {g : Nat} {x : ByteArray} (h : W.cell? ⟨g, 0, none⟩ = some (.string x)) : ∀ j u, [Value.string x][j]? = some u → W.cell? ((⟨g, 0, none⟩ : Addr).add j) = some u := by
  intro j u hj
  match j, hj with
  | 0, hj => simp at hj; subst hj; simpa [Addr.add] using h
/-- The pieces of a text. -/
def pcz (s : ByteArray) : List ByteArray := Lib.splitB ⟨#[32]⟩ 0 (Lib.countB s ⟨#[32]⟩) s
theorem pcz_spl (s : ByteArray) : (pcz s).map (·.data.toList) = spl s.data.toList := by
  unfold pcz spl
  rw [Lib.splitB_data]
  congr 1
  rw [← Lib.count_one]
theorem split_any (s : ByteArray) (w : World) (hs : s.size ≤ 1000000) (hG : Glob0 w) :
    Calls Tryz.prog 21 #[.string s, .string ⟨#[32]⟩] w fun e w' => e = .returned (.slice (some ⟨w.heap.size, 0, none⟩) (pcz s).length (pcz s).length) ∧ w' = w.alloc (.cells ((pcz s).map Value.string).toArray 9) := by
  obtain ⟨m, hm⟩ := hG.1.max
  have hl : (pcz s).length = Lib.countB s ⟨#[32]⟩ + 1 := Lib.splitB_all ⟨#[32]⟩ (by decide) 0 _ s rfl
  rw [hl]
  exact Any.strings_Split lays146 (by kernel_rfl) s ⟨#[32]⟩ m w (by omega) (by rw [show lays146_ren.g 1 = maxG by kernel_rfl]; exact hm) (by decide)
theorem join_mem : ∀ {l : List (List UInt8)} {z : List UInt8}, z ∈ l → z.length ≤ (Lib.join l [32]).length
  | x :: l, z, h => by
    rw [Lib.join_cons, List.length_append]
    rcases List.mem_cons.1 h with rfl | h
    · omega
    · cases l with
      | nil => cases h
      | cons y l =>
        have := join_mem h
        rw [tail_cons, ← Lib.join_cons]
        simp only [List.length_cons]
        omega
theorem tail_app (l : List (List UInt8)) (x : List UInt8) : Lib.joinTail [32] (l ++ [x]) = Lib.joinTail [32] l ++ 32 :: x := by simp [Lib.joinTail]
theorem join_app {l : List (List UInt8)} (h : l ≠ []) (x : List UInt8) : Lib.join (l ++ [x]) [32] = Lib.join l [32] ++ 32 :: x := by
  cases l with
  | nil => exact absurd rfl h
  | cons y l => rw [List.cons_append, Lib.join_cons, Lib.join_cons, tail_app, List.append_assoc]
end Go.Proofs.YtpdhkgfdmpofiaaGreatDoor
