/-
  No cell of these rows narrows 'for every input' (looked for: loops, veiled, ifaces, maps, wideKeys, modest, calm, conditions, laid).
  DERIVED. THE GIVEN ROWS OF THIS SEAT. 10 by the template 'for every input the law returns true; each argument reads behind the call as it read before'; 0 by the template 'total and deterministic' (their statements: YtjnllfebeeiilaaTotals.lean).
  GIVEN WITH THE SEED: the statements are not yours to turn. If you find one false, say at which input.
  Laid BY PROGRAM, IN A SANDBOX (cutbox-rows.mjs): the forced cells as the released guide's own fill.sh prints them over the translation aa3143807251a04a… (all of the seat's roots in one cut). By AI agents, Wed Nov 11 2026. No macro, syntax, notation, axiom, sorry.
-/
import Derived.Test.YtjnllfebeeiilaaChecked
import GoSem.Claim
import GoSem.ClaimJoined
import GoSem.ClaimMapViews
import Derived.JoinedTies
import Derived.KernelRfl
namespace Go.Proofs.Ytjnllfebeeiilaa
/- THE CELL 'sum', in the pinned program and in every row, IS THE sha256 OF THE DUMP (.gsa) THAT YtjnllfebeeiilaaProg.lean LOADS. Nothing in Lean hashes anything: it is a label: what it is worth is what the hold of that sum in a sandbox is worth. -/
noncomputable def Try.pinned : Pinned := { name := "ytjnllfebeeiilaa", sum := "aa3143807251a04a1334aec175fecea4a4dd3670d1b613328ebad3311de3e4e0", checked := Try.checked }
namespace Rows
def none {H : Type} : Left H := { results := [], args := [] }

/-- 'coulomblaw01.QuantityMeets': WHATEVER THE INPUT: true; the input reads as it did. -/
def quantityMeetsSpec : ChangeSpec := { name := "quantityMeets", fn := fun _ => fun
  | [d1, d2, d3] => { results := [.lit (.bool true)], args := [d1, d2, d3] }
  | _ => none }
def quantityMeetsRow : OpenClaim := { program := "ytjnllfebeeiilaa", sum := "aa3143807251a04a1334aec175fecea4a4dd3670d1b613328ebad3311de3e4e0", func := "coulomb/coulomblaw01.QuantityMeets", spec := "quantityMeets", unfollowed := true, recurses := true, apart := false }
def QuantityMeetsSaid : Prop := quantityMeetsRow.holds Try.pinned (OpenSpec.ofChange quantityMeetsSpec)

/-- ITS FALSE NEIGHBOUR: 'it returns false'. Refute it at one input. -/
def quantityMeetsWrong : ChangeSpec := { name := "quantityMeets", fn := fun _ => fun
  | [d1, d2, d3] => { results := [.lit (.bool false)], args := [d1, d2, d3] }
  | _ => none }
def QuantityMeetsWrongFalsely : Prop := quantityMeetsRow.holds Try.pinned (OpenSpec.ofChange quantityMeetsWrong)

/-- 'coulomblaw01.QuantityTight': WHATEVER THE INPUT: true; the input reads as it did. -/
def quantityTightSpec : ChangeSpec := { name := "quantityTight", fn := fun _ => fun
  | [d1, d2, d3, d4] => { results := [.lit (.bool true)], args := [d1, d2, d3, d4] }
  | _ => none }
def quantityTightRow : OpenClaim := { program := "ytjnllfebeeiilaa", sum := "aa3143807251a04a1334aec175fecea4a4dd3670d1b613328ebad3311de3e4e0", func := "coulomb/coulomblaw01.QuantityTight", spec := "quantityTight", unfollowed := true, recurses := true, apart := false }
def QuantityTightSaid : Prop := quantityTightRow.holds Try.pinned (OpenSpec.ofChange quantityTightSpec)

/-- ITS FALSE NEIGHBOUR: 'it returns false'. Refute it at one input. -/
def quantityTightWrong : ChangeSpec := { name := "quantityTight", fn := fun _ => fun
  | [d1, d2, d3, d4] => { results := [.lit (.bool false)], args := [d1, d2, d3, d4] }
  | _ => none }
def QuantityTightWrongFalsely : Prop := quantityTightRow.holds Try.pinned (OpenSpec.ofChange quantityTightWrong)

/-- 'coulomblaw01.QuantityRounds': WHATEVER THE INPUT: true; the input reads as it did. -/
def quantityRoundsSpec : ChangeSpec := { name := "quantityRounds", fn := fun _ => fun
  | [d1, d2, d3] => { results := [.lit (.bool true)], args := [d1, d2, d3] }
  | _ => none }
def quantityRoundsRow : OpenClaim := { program := "ytjnllfebeeiilaa", sum := "aa3143807251a04a1334aec175fecea4a4dd3670d1b613328ebad3311de3e4e0", func := "coulomb/coulomblaw01.QuantityRounds", spec := "quantityRounds", unfollowed := true, recurses := true, apart := false }
def QuantityRoundsSaid : Prop := quantityRoundsRow.holds Try.pinned (OpenSpec.ofChange quantityRoundsSpec)

/-- ITS FALSE NEIGHBOUR: 'it returns false'. Refute it at one input. -/
def quantityRoundsWrong : ChangeSpec := { name := "quantityRounds", fn := fun _ => fun
  | [d1, d2, d3] => { results := [.lit (.bool false)], args := [d1, d2, d3] }
  | _ => none }
def QuantityRoundsWrongFalsely : Prop := quantityRoundsRow.holds Try.pinned (OpenSpec.ofChange quantityRoundsWrong)

/-- 'coulomblaw01.QuantityKeeps': WHATEVER THE INPUT: true; the input reads as it did. -/
def quantityKeepsSpec : ChangeSpec := { name := "quantityKeeps", fn := fun _ => fun
  | [d1, d2, d3, d4] => { results := [.lit (.bool true)], args := [d1, d2, d3, d4] }
  | _ => none }
def quantityKeepsRow : OpenClaim := { program := "ytjnllfebeeiilaa", sum := "aa3143807251a04a1334aec175fecea4a4dd3670d1b613328ebad3311de3e4e0", func := "coulomb/coulomblaw01.QuantityKeeps", spec := "quantityKeeps", unfollowed := true, recurses := true, apart := false }
def QuantityKeepsSaid : Prop := quantityKeepsRow.holds Try.pinned (OpenSpec.ofChange quantityKeepsSpec)

/-- ITS FALSE NEIGHBOUR: 'it returns false'. Refute it at one input. -/
def quantityKeepsWrong : ChangeSpec := { name := "quantityKeeps", fn := fun _ => fun
  | [d1, d2, d3, d4] => { results := [.lit (.bool false)], args := [d1, d2, d3, d4] }
  | _ => none }
def QuantityKeepsWrongFalsely : Prop := quantityKeepsRow.holds Try.pinned (OpenSpec.ofChange quantityKeepsWrong)

/-- 'coulomblaw01.QuantityInner': WHATEVER THE INPUT: true; the input reads as it did. -/
def quantityInnerSpec : ChangeSpec := { name := "quantityInner", fn := fun _ => fun
  | [d1, d2, d3, d4, d5, d6] => { results := [.lit (.bool true)], args := [d1, d2, d3, d4, d5, d6] }
  | _ => none }
def quantityInnerRow : OpenClaim := { program := "ytjnllfebeeiilaa", sum := "aa3143807251a04a1334aec175fecea4a4dd3670d1b613328ebad3311de3e4e0", func := "coulomb/coulomblaw01.QuantityInner", spec := "quantityInner", unfollowed := true, recurses := true, apart := false }
def QuantityInnerSaid : Prop := quantityInnerRow.holds Try.pinned (OpenSpec.ofChange quantityInnerSpec)

/-- ITS FALSE NEIGHBOUR: 'it returns false'. Refute it at one input. -/
def quantityInnerWrong : ChangeSpec := { name := "quantityInner", fn := fun _ => fun
  | [d1, d2, d3, d4, d5, d6] => { results := [.lit (.bool false)], args := [d1, d2, d3, d4, d5, d6] }
  | _ => none }
def QuantityInnerWrongFalsely : Prop := quantityInnerRow.holds Try.pinned (OpenSpec.ofChange quantityInnerWrong)

/-- 'coulomblaw01.QuantityBlends': WHATEVER THE INPUT: true; the input reads as it did. -/
def quantityBlendsSpec : ChangeSpec := { name := "quantityBlends", fn := fun _ => fun
  | [d1, d2, d3, d4] => { results := [.lit (.bool true)], args := [d1, d2, d3, d4] }
  | _ => none }
def quantityBlendsRow : OpenClaim := { program := "ytjnllfebeeiilaa", sum := "aa3143807251a04a1334aec175fecea4a4dd3670d1b613328ebad3311de3e4e0", func := "coulomb/coulomblaw01.QuantityBlends", spec := "quantityBlends", unfollowed := true, recurses := true, apart := false }
def QuantityBlendsSaid : Prop := quantityBlendsRow.holds Try.pinned (OpenSpec.ofChange quantityBlendsSpec)

/-- ITS FALSE NEIGHBOUR: 'it returns false'. Refute it at one input. -/
def quantityBlendsWrong : ChangeSpec := { name := "quantityBlends", fn := fun _ => fun
  | [d1, d2, d3, d4] => { results := [.lit (.bool false)], args := [d1, d2, d3, d4] }
  | _ => none }
def QuantityBlendsWrongFalsely : Prop := quantityBlendsRow.holds Try.pinned (OpenSpec.ofChange quantityBlendsWrong)

/-- 'coulomblaw01.QuantitySpans': WHATEVER THE INPUT: true; the input reads as it did. -/
def quantitySpansSpec : ChangeSpec := { name := "quantitySpans", fn := fun _ => fun
  | [d] => { results := [.lit (.bool true)], args := [d] }
  | _ => none }
def quantitySpansRow : OpenClaim := { program := "ytjnllfebeeiilaa", sum := "aa3143807251a04a1334aec175fecea4a4dd3670d1b613328ebad3311de3e4e0", func := "coulomb/coulomblaw01.QuantitySpans", spec := "quantitySpans", unfollowed := true, recurses := true, apart := false }
def QuantitySpansSaid : Prop := quantitySpansRow.holds Try.pinned (OpenSpec.ofChange quantitySpansSpec)

/-- ITS FALSE NEIGHBOUR: 'it returns false'. Refute it at one input. -/
def quantitySpansWrong : ChangeSpec := { name := "quantitySpans", fn := fun _ => fun
  | [d] => { results := [.lit (.bool false)], args := [d] }
  | _ => none }
def QuantitySpansWrongFalsely : Prop := quantitySpansRow.holds Try.pinned (OpenSpec.ofChange quantitySpansWrong)

/-- 'coulomblaw01.QuantityBacks': WHATEVER THE INPUT: true; the input reads as it did. -/
def quantityBacksSpec : ChangeSpec := { name := "quantityBacks", fn := fun _ => fun
  | [d1, d2, d3, d4, d5] => { results := [.lit (.bool true)], args := [d1, d2, d3, d4, d5] }
  | _ => none }
def quantityBacksRow : OpenClaim := { program := "ytjnllfebeeiilaa", sum := "aa3143807251a04a1334aec175fecea4a4dd3670d1b613328ebad3311de3e4e0", func := "coulomb/coulomblaw01.QuantityBacks", spec := "quantityBacks", unfollowed := true, recurses := true, apart := false }
def QuantityBacksSaid : Prop := quantityBacksRow.holds Try.pinned (OpenSpec.ofChange quantityBacksSpec)

/-- ITS FALSE NEIGHBOUR: 'it returns false'. Refute it at one input. -/
def quantityBacksWrong : ChangeSpec := { name := "quantityBacks", fn := fun _ => fun
  | [d1, d2, d3, d4, d5] => { results := [.lit (.bool false)], args := [d1, d2, d3, d4, d5] }
  | _ => none }
def QuantityBacksWrongFalsely : Prop := quantityBacksRow.holds Try.pinned (OpenSpec.ofChange quantityBacksWrong)

/-- 'coulomblaw01.QuantityHalves': WHATEVER THE INPUT: true; the input reads as it did. -/
def quantityHalvesSpec : ChangeSpec := { name := "quantityHalves", fn := fun _ => fun
  | [d1, d2] => { results := [.lit (.bool true)], args := [d1, d2] }
  | _ => none }
def quantityHalvesRow : OpenClaim := { program := "ytjnllfebeeiilaa", sum := "aa3143807251a04a1334aec175fecea4a4dd3670d1b613328ebad3311de3e4e0", func := "coulomb/coulomblaw01.QuantityHalves", spec := "quantityHalves", unfollowed := true, recurses := true, apart := false }
def QuantityHalvesSaid : Prop := quantityHalvesRow.holds Try.pinned (OpenSpec.ofChange quantityHalvesSpec)

/-- ITS FALSE NEIGHBOUR: 'it returns false'. Refute it at one input. -/
def quantityHalvesWrong : ChangeSpec := { name := "quantityHalves", fn := fun _ => fun
  | [d1, d2] => { results := [.lit (.bool false)], args := [d1, d2] }
  | _ => none }
def QuantityHalvesWrongFalsely : Prop := quantityHalvesRow.holds Try.pinned (OpenSpec.ofChange quantityHalvesWrong)

/-- 'coulomblaw01.QuantityBoxes': WHATEVER THE INPUT: true; the input reads as it did. -/
def quantityBoxesSpec : ChangeSpec := { name := "quantityBoxes", fn := fun _ => fun
  | [d1, d2, d3, d4] => { results := [.lit (.bool true)], args := [d1, d2, d3, d4] }
  | _ => none }
def quantityBoxesRow : OpenClaim := { program := "ytjnllfebeeiilaa", sum := "aa3143807251a04a1334aec175fecea4a4dd3670d1b613328ebad3311de3e4e0", func := "coulomb/coulomblaw01.QuantityBoxes", spec := "quantityBoxes", unfollowed := true, recurses := true, apart := false }
def QuantityBoxesSaid : Prop := quantityBoxesRow.holds Try.pinned (OpenSpec.ofChange quantityBoxesSpec)

/-- ITS FALSE NEIGHBOUR: 'it returns false'. Refute it at one input. -/
def quantityBoxesWrong : ChangeSpec := { name := "quantityBoxes", fn := fun _ => fun
  | [d1, d2, d3, d4] => { results := [.lit (.bool false)], args := [d1, d2, d3, d4] }
  | _ => none }
def QuantityBoxesWrongFalsely : Prop := quantityBoxesRow.holds Try.pinned (OpenSpec.ofChange quantityBoxesWrong)

/- THE SECOND FORM. 'bulk': how many values and letters a reading holds, each counted each time it is reached (what is shared counts as often as it is met; a slice's spare places count too). A statement '..UptoSaid' is the law's where the arguments, and the package variables that the reading takes, are together of bulk at most 1048576: NARROWER than '..Said'. Prove '..Said' where nothing that the law and all that it calls make is longer than what came in: it says more and counts as full. Else prove '..UptoSaid'. A law counts once. -/
mutual
def uptoBulk {H : Type} : DataW H → Nat
  | .lit (.string bytes) => bytes.length + 1
  | .lit _ => 1
  | .nil => 1
  | .ptr d => uptoBulk d + 1
  | .slice elems spare => uptoBulkAll elems + uptoBulkAll spare + 1
  | .agg parts => uptoBulkAll parts + 1
  | .iface _ d => uptoBulk d + 1
  | .map entries => uptoBulkEntries entries + 1
  | .held _ => 1
def uptoBulkAll {H : Type} : List (DataW H) → Nat
  | [] => 0
  | d :: r => uptoBulk d + uptoBulkAll r
def uptoBulkEntries {H : Type} : List (Lit × DataW H) → Nat
  | [] => 0
  | x :: r => uptoBulkEntry x + uptoBulkEntries r
def uptoBulkEntry {H : Type} : Lit × DataW H → Nat
  | (.string bytes, d) => bytes.length + uptoBulk d + 1
  | (_, d) => uptoBulk d + 1
 end
def uptoSmall : (H : Type) → List (DataW H) → Bool := fun _ ds => decide (uptoBulkAll ds ≤ 1048576)
def OpenSpec.upto (s : _root_.Go.ChangeSpec) : _root_.Go.OpenSpec := { _root_.Go.OpenSpec.ofChange s with cond := some uptoSmall }

/-- 'coulomblaw01.QuantityMeets', WHERE WHAT IT READS IS OF BULK AT MOST 1048576: true; the input reads as it did. -/
def quantityMeetsUptoRow : OpenClaim := { program := "ytjnllfebeeiilaa", sum := "aa3143807251a04a1334aec175fecea4a4dd3670d1b613328ebad3311de3e4e0", func := "coulomb/coulomblaw01.QuantityMeets", spec := "quantityMeets", unfollowed := true, recurses := true, apart := false, narrowed := true }
def QuantityMeetsUptoSaid : Prop := quantityMeetsUptoRow.holds Try.pinned (OpenSpec.upto quantityMeetsSpec)

/-- 'coulomblaw01.QuantityTight', WHERE WHAT IT READS IS OF BULK AT MOST 1048576: true; the input reads as it did. -/
def quantityTightUptoRow : OpenClaim := { program := "ytjnllfebeeiilaa", sum := "aa3143807251a04a1334aec175fecea4a4dd3670d1b613328ebad3311de3e4e0", func := "coulomb/coulomblaw01.QuantityTight", spec := "quantityTight", unfollowed := true, recurses := true, apart := false, narrowed := true }
def QuantityTightUptoSaid : Prop := quantityTightUptoRow.holds Try.pinned (OpenSpec.upto quantityTightSpec)

/-- 'coulomblaw01.QuantityRounds', WHERE WHAT IT READS IS OF BULK AT MOST 1048576: true; the input reads as it did. -/
def quantityRoundsUptoRow : OpenClaim := { program := "ytjnllfebeeiilaa", sum := "aa3143807251a04a1334aec175fecea4a4dd3670d1b613328ebad3311de3e4e0", func := "coulomb/coulomblaw01.QuantityRounds", spec := "quantityRounds", unfollowed := true, recurses := true, apart := false, narrowed := true }
def QuantityRoundsUptoSaid : Prop := quantityRoundsUptoRow.holds Try.pinned (OpenSpec.upto quantityRoundsSpec)

/-- 'coulomblaw01.QuantityKeeps', WHERE WHAT IT READS IS OF BULK AT MOST 1048576: true; the input reads as it did. -/
def quantityKeepsUptoRow : OpenClaim := { program := "ytjnllfebeeiilaa", sum := "aa3143807251a04a1334aec175fecea4a4dd3670d1b613328ebad3311de3e4e0", func := "coulomb/coulomblaw01.QuantityKeeps", spec := "quantityKeeps", unfollowed := true, recurses := true, apart := false, narrowed := true }
def QuantityKeepsUptoSaid : Prop := quantityKeepsUptoRow.holds Try.pinned (OpenSpec.upto quantityKeepsSpec)

/-- 'coulomblaw01.QuantityInner', WHERE WHAT IT READS IS OF BULK AT MOST 1048576: true; the input reads as it did. -/
def quantityInnerUptoRow : OpenClaim := { program := "ytjnllfebeeiilaa", sum := "aa3143807251a04a1334aec175fecea4a4dd3670d1b613328ebad3311de3e4e0", func := "coulomb/coulomblaw01.QuantityInner", spec := "quantityInner", unfollowed := true, recurses := true, apart := false, narrowed := true }
def QuantityInnerUptoSaid : Prop := quantityInnerUptoRow.holds Try.pinned (OpenSpec.upto quantityInnerSpec)

/-- 'coulomblaw01.QuantityBlends', WHERE WHAT IT READS IS OF BULK AT MOST 1048576: true; the input reads as it did. -/
def quantityBlendsUptoRow : OpenClaim := { program := "ytjnllfebeeiilaa", sum := "aa3143807251a04a1334aec175fecea4a4dd3670d1b613328ebad3311de3e4e0", func := "coulomb/coulomblaw01.QuantityBlends", spec := "quantityBlends", unfollowed := true, recurses := true, apart := false, narrowed := true }
def QuantityBlendsUptoSaid : Prop := quantityBlendsUptoRow.holds Try.pinned (OpenSpec.upto quantityBlendsSpec)

/-- 'coulomblaw01.QuantitySpans', WHERE WHAT IT READS IS OF BULK AT MOST 1048576: true; the input reads as it did. -/
def quantitySpansUptoRow : OpenClaim := { program := "ytjnllfebeeiilaa", sum := "aa3143807251a04a1334aec175fecea4a4dd3670d1b613328ebad3311de3e4e0", func := "coulomb/coulomblaw01.QuantitySpans", spec := "quantitySpans", unfollowed := true, recurses := true, apart := false, narrowed := true }
def QuantitySpansUptoSaid : Prop := quantitySpansUptoRow.holds Try.pinned (OpenSpec.upto quantitySpansSpec)

/-- 'coulomblaw01.QuantityBacks', WHERE WHAT IT READS IS OF BULK AT MOST 1048576: true; the input reads as it did. -/
def quantityBacksUptoRow : OpenClaim := { program := "ytjnllfebeeiilaa", sum := "aa3143807251a04a1334aec175fecea4a4dd3670d1b613328ebad3311de3e4e0", func := "coulomb/coulomblaw01.QuantityBacks", spec := "quantityBacks", unfollowed := true, recurses := true, apart := false, narrowed := true }
def QuantityBacksUptoSaid : Prop := quantityBacksUptoRow.holds Try.pinned (OpenSpec.upto quantityBacksSpec)

/-- 'coulomblaw01.QuantityHalves', WHERE WHAT IT READS IS OF BULK AT MOST 1048576: true; the input reads as it did. -/
def quantityHalvesUptoRow : OpenClaim := { program := "ytjnllfebeeiilaa", sum := "aa3143807251a04a1334aec175fecea4a4dd3670d1b613328ebad3311de3e4e0", func := "coulomb/coulomblaw01.QuantityHalves", spec := "quantityHalves", unfollowed := true, recurses := true, apart := false, narrowed := true }
def QuantityHalvesUptoSaid : Prop := quantityHalvesUptoRow.holds Try.pinned (OpenSpec.upto quantityHalvesSpec)

/-- 'coulomblaw01.QuantityBoxes', WHERE WHAT IT READS IS OF BULK AT MOST 1048576: true; the input reads as it did. -/
def quantityBoxesUptoRow : OpenClaim := { program := "ytjnllfebeeiilaa", sum := "aa3143807251a04a1334aec175fecea4a4dd3670d1b613328ebad3311de3e4e0", func := "coulomb/coulomblaw01.QuantityBoxes", spec := "quantityBoxes", unfollowed := true, recurses := true, apart := false, narrowed := true }
def QuantityBoxesUptoSaid : Prop := quantityBoxesUptoRow.holds Try.pinned (OpenSpec.upto quantityBoxesSpec)

end Rows
end Go.Proofs.Ytjnllfebeeiilaa
