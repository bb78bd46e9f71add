/-
  No cell of these rows narrows 'for every input' (looked for: loops, veiled, ifaces, maps, wideKeys, modest, calm, conditions, laid).
  DERIVED. THE GIVEN ROWS OF THIS SEAT. 3 by the template 'for every input the law returns true; each argument reads behind the call as it read before'; 0 by the template 'total and deterministic' (their statements: YtngnehlmbipabaaTotals.lean).
  GIVEN WITH THE SEED: the statements are not yours to turn. If you find one false, say at which input.
  Laid BY PROGRAM, IN A SANDBOX (cutbox-rows.mjs): the forced cells as the released guide's own fill.sh prints them over the translation 6a2957e1883fb716… (all of the seat's roots in one cut). By AI agents, Wed Nov 11 2026. No macro, syntax, notation, axiom, sorry.
-/
import Derived.Test.YtngnehlmbipabaaChecked
import GoSem.Claim
import GoSem.ClaimJoined
import GoSem.ClaimMapViews
import Derived.JoinedTies
import Derived.KernelRfl
namespace Go.Proofs.Ytngnehlmbipabaa
/- THE CELL 'sum', in the pinned program and in every row, IS THE sha256 OF THE DUMP (.gsa) THAT YtngnehlmbipabaaProg.lean LOADS. Nothing in Lean hashes anything: it is a label: what it is worth is what the hold of that sum in a sandbox is worth. -/
noncomputable def Try.pinned : Pinned := { name := "ytngnehlmbipabaa", sum := "6a2957e1883fb716cc950c72ca32c5097d111c433c42e3019d97d0c3609983f1", checked := Try.checked }
namespace Rows
def none {H : Type} : Left H := { results := [], args := [] }

/-- 'coulomblaw01.QuantityBlends': WHATEVER THE INPUT: true; the input reads as it did. -/
def quantityBlendsSpec : ChangeSpec := { name := "quantityBlends", fn := fun _ => fun
  | [d1, d2, d3, d4] => { results := [.lit (.bool true)], args := [d1, d2, d3, d4] }
  | _ => none }
def quantityBlendsRow : OpenClaim := { program := "ytngnehlmbipabaa", sum := "6a2957e1883fb716cc950c72ca32c5097d111c433c42e3019d97d0c3609983f1", func := "coulomb/coulomblaw01.QuantityBlends", spec := "quantityBlends", unfollowed := true, recurses := true, apart := false }
def QuantityBlendsSaid : Prop := quantityBlendsRow.holds Try.pinned (OpenSpec.ofChange quantityBlendsSpec)

/-- ITS FALSE NEIGHBOUR: 'it returns false'. Refute it at one input. -/
def quantityBlendsWrong : ChangeSpec := { name := "quantityBlends", fn := fun _ => fun
  | [d1, d2, d3, d4] => { results := [.lit (.bool false)], args := [d1, d2, d3, d4] }
  | _ => none }
def QuantityBlendsWrongFalsely : Prop := quantityBlendsRow.holds Try.pinned (OpenSpec.ofChange quantityBlendsWrong)

/-- 'coulomblaw01.QuantityBacks': WHATEVER THE INPUT: true; the input reads as it did. -/
def quantityBacksSpec : ChangeSpec := { name := "quantityBacks", fn := fun _ => fun
  | [d1, d2, d3, d4, d5] => { results := [.lit (.bool true)], args := [d1, d2, d3, d4, d5] }
  | _ => none }
def quantityBacksRow : OpenClaim := { program := "ytngnehlmbipabaa", sum := "6a2957e1883fb716cc950c72ca32c5097d111c433c42e3019d97d0c3609983f1", func := "coulomb/coulomblaw01.QuantityBacks", spec := "quantityBacks", unfollowed := true, recurses := true, apart := false }
def QuantityBacksSaid : Prop := quantityBacksRow.holds Try.pinned (OpenSpec.ofChange quantityBacksSpec)

/-- ITS FALSE NEIGHBOUR: 'it returns false'. Refute it at one input. -/
def quantityBacksWrong : ChangeSpec := { name := "quantityBacks", fn := fun _ => fun
  | [d1, d2, d3, d4, d5] => { results := [.lit (.bool false)], args := [d1, d2, d3, d4, d5] }
  | _ => none }
def QuantityBacksWrongFalsely : Prop := quantityBacksRow.holds Try.pinned (OpenSpec.ofChange quantityBacksWrong)

/-- 'coulomblaw01.QuantityBoxes': WHATEVER THE INPUT: true; the input reads as it did. -/
def quantityBoxesSpec : ChangeSpec := { name := "quantityBoxes", fn := fun _ => fun
  | [d1, d2, d3, d4] => { results := [.lit (.bool true)], args := [d1, d2, d3, d4] }
  | _ => none }
def quantityBoxesRow : OpenClaim := { program := "ytngnehlmbipabaa", sum := "6a2957e1883fb716cc950c72ca32c5097d111c433c42e3019d97d0c3609983f1", func := "coulomb/coulomblaw01.QuantityBoxes", spec := "quantityBoxes", unfollowed := true, recurses := true, apart := false }
def QuantityBoxesSaid : Prop := quantityBoxesRow.holds Try.pinned (OpenSpec.ofChange quantityBoxesSpec)

/-- ITS FALSE NEIGHBOUR: 'it returns false'. Refute it at one input. -/
def quantityBoxesWrong : ChangeSpec := { name := "quantityBoxes", fn := fun _ => fun
  | [d1, d2, d3, d4] => { results := [.lit (.bool false)], args := [d1, d2, d3, d4] }
  | _ => none }
def QuantityBoxesWrongFalsely : Prop := quantityBoxesRow.holds Try.pinned (OpenSpec.ofChange quantityBoxesWrong)

/- THE SECOND FORM. 'bulk': how many values and letters a reading holds, each counted each time it is reached (what is shared counts as often as it is met; a slice's spare places count too). A statement '..UptoSaid' is the law's where the arguments, and the package variables that the reading takes, are together of bulk at most 1048576: NARROWER than '..Said'. Prove '..Said' where nothing that the law and all that it calls make is longer than what came in: it says more and counts as full. Else prove '..UptoSaid'. A law counts once. -/
mutual
def uptoBulk {H : Type} : DataW H → Nat
  | .lit (.string bytes) => bytes.length + 1
  | .lit _ => 1
  | .nil => 1
  | .ptr d => uptoBulk d + 1
  | .slice elems spare => uptoBulkAll elems + uptoBulkAll spare + 1
  | .agg parts => uptoBulkAll parts + 1
  | .iface _ d => uptoBulk d + 1
  | .map entries => uptoBulkEntries entries + 1
  | .held _ => 1
def uptoBulkAll {H : Type} : List (DataW H) → Nat
  | [] => 0
  | d :: r => uptoBulk d + uptoBulkAll r
def uptoBulkEntries {H : Type} : List (Lit × DataW H) → Nat
  | [] => 0
  | x :: r => uptoBulkEntry x + uptoBulkEntries r
def uptoBulkEntry {H : Type} : Lit × DataW H → Nat
  | (.string bytes, d) => bytes.length + uptoBulk d + 1
  | (_, d) => uptoBulk d + 1
 end
def uptoSmall : (H : Type) → List (DataW H) → Bool := fun _ ds => decide (uptoBulkAll ds ≤ 1048576)
def OpenSpec.upto (s : _root_.Go.ChangeSpec) : _root_.Go.OpenSpec := { _root_.Go.OpenSpec.ofChange s with cond := some uptoSmall }

/-- 'coulomblaw01.QuantityBlends', WHERE WHAT IT READS IS OF BULK AT MOST 1048576: true; the input reads as it did. -/
def quantityBlendsUptoRow : OpenClaim := { program := "ytngnehlmbipabaa", sum := "6a2957e1883fb716cc950c72ca32c5097d111c433c42e3019d97d0c3609983f1", func := "coulomb/coulomblaw01.QuantityBlends", spec := "quantityBlends", unfollowed := true, recurses := true, apart := false, narrowed := true }
def QuantityBlendsUptoSaid : Prop := quantityBlendsUptoRow.holds Try.pinned (OpenSpec.upto quantityBlendsSpec)

/-- 'coulomblaw01.QuantityBacks', WHERE WHAT IT READS IS OF BULK AT MOST 1048576: true; the input reads as it did. -/
def quantityBacksUptoRow : OpenClaim := { program := "ytngnehlmbipabaa", sum := "6a2957e1883fb716cc950c72ca32c5097d111c433c42e3019d97d0c3609983f1", func := "coulomb/coulomblaw01.QuantityBacks", spec := "quantityBacks", unfollowed := true, recurses := true, apart := false, narrowed := true }
def QuantityBacksUptoSaid : Prop := quantityBacksUptoRow.holds Try.pinned (OpenSpec.upto quantityBacksSpec)

/-- 'coulomblaw01.QuantityBoxes', WHERE WHAT IT READS IS OF BULK AT MOST 1048576: true; the input reads as it did. -/
def quantityBoxesUptoRow : OpenClaim := { program := "ytngnehlmbipabaa", sum := "6a2957e1883fb716cc950c72ca32c5097d111c433c42e3019d97d0c3609983f1", func := "coulomb/coulomblaw01.QuantityBoxes", spec := "quantityBoxes", unfollowed := true, recurses := true, apart := false, narrowed := true }
def QuantityBoxesUptoSaid : Prop := quantityBoxesUptoRow.holds Try.pinned (OpenSpec.upto quantityBoxesSpec)

end Rows
end Go.Proofs.Ytngnehlmbipabaa
