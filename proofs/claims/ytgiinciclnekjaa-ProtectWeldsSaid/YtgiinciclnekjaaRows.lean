/-
  No cell of these rows narrows 'for every input' (looked for: loops, veiled, ifaces, maps, wideKeys, modest, calm, conditions, laid).
  DERIVED. THE GIVEN ROWS OF THIS SEAT. 11 by the template 'for every input the law returns true; each argument reads behind the call as it read before'; 0 by the template 'total and deterministic' (their statements: YtgiinciclnekjaaTotals.lean).
  GIVEN WITH THE SEED: the statements are not yours to turn. If you find one false, say at which input.
  Laid BY PROGRAM, IN A SANDBOX (cutbox-rows.mjs): the forced cells as the released guide's own fill.sh prints them over the translation 81a4a7e010049ac9… (all of the seat's roots in one cut). By AI agents, Wed Nov 11 2026. No macro, syntax, notation, axiom, sorry.
-/
import Derived.Test.YtgiinciclnekjaaChecked
import GoSem.Claim
import GoSem.ClaimJoined
import GoSem.ClaimMapViews
import Derived.JoinedTies
import Derived.KernelRfl
namespace Go.Proofs.Ytgiinciclnekjaa
/- THE CELL 'sum', in the pinned program and in every row, IS THE sha256 OF THE DUMP (.gsa) THAT YtgiinciclnekjaaProg.lean LOADS. Nothing in Lean hashes anything: it is a label: what it is worth is what the hold of that sum in a sandbox is worth. -/
noncomputable def Try.pinned : Pinned := { name := "ytgiinciclnekjaa", sum := "81a4a7e010049ac91c74e184d97cf4b0cee431eea1fcbf4acd3db72e7a7ba4d9", checked := Try.checked }
namespace Rows
def none {H : Type} : Left H := { results := [], args := [] }

/-- 'coulomblaw05.ProtectDead': WHATEVER THE INPUT: true; the input reads as it did. -/
def protectDeadSpec : ChangeSpec := { name := "protectDead", fn := fun _ => fun
  | [d1, d2] => { results := [.lit (.bool true)], args := [d1, d2] }
  | _ => none }
def protectDeadRow : OpenClaim := { program := "ytgiinciclnekjaa", sum := "81a4a7e010049ac91c74e184d97cf4b0cee431eea1fcbf4acd3db72e7a7ba4d9", func := "coulomb/coulomblaw05.ProtectDead", spec := "protectDead", unfollowed := true, recurses := true, apart := false }
def ProtectDeadSaid : Prop := protectDeadRow.holds Try.pinned (OpenSpec.ofChange protectDeadSpec)

/-- ITS FALSE NEIGHBOUR: 'it returns false'. Refute it at one input. -/
def protectDeadWrong : ChangeSpec := { name := "protectDead", fn := fun _ => fun
  | [d1, d2] => { results := [.lit (.bool false)], args := [d1, d2] }
  | _ => none }
def ProtectDeadWrongFalsely : Prop := protectDeadRow.holds Try.pinned (OpenSpec.ofChange protectDeadWrong)

/-- 'coulomblaw05.ProtectVoting': WHATEVER THE INPUT: true; the input reads as it did. -/
def protectVotingSpec : ChangeSpec := { name := "protectVoting", fn := fun _ => fun
  | [d1, d2, d3, d4, d5, d6, d7, d8] => { results := [.lit (.bool true)], args := [d1, d2, d3, d4, d5, d6, d7, d8] }
  | _ => none }
def protectVotingRow : OpenClaim := { program := "ytgiinciclnekjaa", sum := "81a4a7e010049ac91c74e184d97cf4b0cee431eea1fcbf4acd3db72e7a7ba4d9", func := "coulomb/coulomblaw05.ProtectVoting", spec := "protectVoting", unfollowed := true, recurses := true, apart := false }
def ProtectVotingSaid : Prop := protectVotingRow.holds Try.pinned (OpenSpec.ofChange protectVotingSpec)

/-- ITS FALSE NEIGHBOUR: 'it returns false'. Refute it at one input. -/
def protectVotingWrong : ChangeSpec := { name := "protectVoting", fn := fun _ => fun
  | [d1, d2, d3, d4, d5, d6, d7, d8] => { results := [.lit (.bool false)], args := [d1, d2, d3, d4, d5, d6, d7, d8] }
  | _ => none }
def ProtectVotingWrongFalsely : Prop := protectVotingRow.holds Try.pinned (OpenSpec.ofChange protectVotingWrong)

/-- 'coulomblaw05.ProtectMelts': WHATEVER THE INPUT: true; the input reads as it did. -/
def protectMeltsSpec : ChangeSpec := { name := "protectMelts", fn := fun _ => fun
  | [d1, d2] => { results := [.lit (.bool true)], args := [d1, d2] }
  | _ => none }
def protectMeltsRow : OpenClaim := { program := "ytgiinciclnekjaa", sum := "81a4a7e010049ac91c74e184d97cf4b0cee431eea1fcbf4acd3db72e7a7ba4d9", func := "coulomb/coulomblaw05.ProtectMelts", spec := "protectMelts", unfollowed := true, recurses := true, apart := false }
def ProtectMeltsSaid : Prop := protectMeltsRow.holds Try.pinned (OpenSpec.ofChange protectMeltsSpec)

/-- ITS FALSE NEIGHBOUR: 'it returns false'. Refute it at one input. -/
def protectMeltsWrong : ChangeSpec := { name := "protectMelts", fn := fun _ => fun
  | [d1, d2] => { results := [.lit (.bool false)], args := [d1, d2] }
  | _ => none }
def ProtectMeltsWrongFalsely : Prop := protectMeltsRow.holds Try.pinned (OpenSpec.ofChange protectMeltsWrong)

/-- 'coulomblaw05.ProtectFuses': WHATEVER THE INPUT: true; the input reads as it did. -/
def protectFusesSpec : ChangeSpec := { name := "protectFuses", fn := fun _ => fun
  | [d1, d2, d3, d4] => { results := [.lit (.bool true)], args := [d1, d2, d3, d4] }
  | _ => none }
def protectFusesRow : OpenClaim := { program := "ytgiinciclnekjaa", sum := "81a4a7e010049ac91c74e184d97cf4b0cee431eea1fcbf4acd3db72e7a7ba4d9", func := "coulomb/coulomblaw05.ProtectFuses", spec := "protectFuses", unfollowed := true, recurses := true, apart := false }
def ProtectFusesSaid : Prop := protectFusesRow.holds Try.pinned (OpenSpec.ofChange protectFusesSpec)

/-- ITS FALSE NEIGHBOUR: 'it returns false'. Refute it at one input. -/
def protectFusesWrong : ChangeSpec := { name := "protectFuses", fn := fun _ => fun
  | [d1, d2, d3, d4] => { results := [.lit (.bool false)], args := [d1, d2, d3, d4] }
  | _ => none }
def ProtectFusesWrongFalsely : Prop := protectFusesRow.holds Try.pinned (OpenSpec.ofChange protectFusesWrong)

/-- 'coulomblaw05.ProtectVotes': WHATEVER THE INPUT: true; the input reads as it did. -/
def protectVotesSpec : ChangeSpec := { name := "protectVotes", fn := fun _ => fun
  | [d1, d2, d3, d4, d5] => { results := [.lit (.bool true)], args := [d1, d2, d3, d4, d5] }
  | _ => none }
def protectVotesRow : OpenClaim := { program := "ytgiinciclnekjaa", sum := "81a4a7e010049ac91c74e184d97cf4b0cee431eea1fcbf4acd3db72e7a7ba4d9", func := "coulomb/coulomblaw05.ProtectVotes", spec := "protectVotes", unfollowed := true, recurses := true, apart := false }
def ProtectVotesSaid : Prop := protectVotesRow.holds Try.pinned (OpenSpec.ofChange protectVotesSpec)

/-- ITS FALSE NEIGHBOUR: 'it returns false'. Refute it at one input. -/
def protectVotesWrong : ChangeSpec := { name := "protectVotes", fn := fun _ => fun
  | [d1, d2, d3, d4, d5] => { results := [.lit (.bool false)], args := [d1, d2, d3, d4, d5] }
  | _ => none }
def ProtectVotesWrongFalsely : Prop := protectVotesRow.holds Try.pinned (OpenSpec.ofChange protectVotesWrong)

/-- 'coulomblaw05.ProtectPlant': WHATEVER THE INPUT: true; the input reads as it did. -/
def protectPlantSpec : ChangeSpec := { name := "protectPlant", fn := fun _ => fun
  | [d1, d2, d3, d4] => { results := [.lit (.bool true)], args := [d1, d2, d3, d4] }
  | _ => none }
def protectPlantRow : OpenClaim := { program := "ytgiinciclnekjaa", sum := "81a4a7e010049ac91c74e184d97cf4b0cee431eea1fcbf4acd3db72e7a7ba4d9", func := "coulomb/coulomblaw05.ProtectPlant", spec := "protectPlant", unfollowed := true, recurses := true, apart := false }
def ProtectPlantSaid : Prop := protectPlantRow.holds Try.pinned (OpenSpec.ofChange protectPlantSpec)

/-- ITS FALSE NEIGHBOUR: 'it returns false'. Refute it at one input. -/
def protectPlantWrong : ChangeSpec := { name := "protectPlant", fn := fun _ => fun
  | [d1, d2, d3, d4] => { results := [.lit (.bool false)], args := [d1, d2, d3, d4] }
  | _ => none }
def ProtectPlantWrongFalsely : Prop := protectPlantRow.holds Try.pinned (OpenSpec.ofChange protectPlantWrong)

/-- 'coulomblaw05.ProtectNil': WHATEVER THE INPUT: true; the input reads as it did. -/
def protectNilSpec : ChangeSpec := { name := "protectNil", fn := fun _ => fun
  | [d1, d2, d3] => { results := [.lit (.bool true)], args := [d1, d2, d3] }
  | _ => none }
def protectNilRow : OpenClaim := { program := "ytgiinciclnekjaa", sum := "81a4a7e010049ac91c74e184d97cf4b0cee431eea1fcbf4acd3db72e7a7ba4d9", func := "coulomb/coulomblaw05.ProtectNil", spec := "protectNil", unfollowed := true, recurses := true, apart := false }
def ProtectNilSaid : Prop := protectNilRow.holds Try.pinned (OpenSpec.ofChange protectNilSpec)

/-- ITS FALSE NEIGHBOUR: 'it returns false'. Refute it at one input. -/
def protectNilWrong : ChangeSpec := { name := "protectNil", fn := fun _ => fun
  | [d1, d2, d3] => { results := [.lit (.bool false)], args := [d1, d2, d3] }
  | _ => none }
def ProtectNilWrongFalsely : Prop := protectNilRow.holds Try.pinned (OpenSpec.ofChange protectNilWrong)

/-- 'coulomblaw05.ProtectReacts': WHATEVER THE INPUT: true; the input reads as it did. -/
def protectReactsSpec : ChangeSpec := { name := "protectReacts", fn := fun _ => fun
  | [d] => { results := [.lit (.bool true)], args := [d] }
  | _ => none }
def protectReactsRow : OpenClaim := { program := "ytgiinciclnekjaa", sum := "81a4a7e010049ac91c74e184d97cf4b0cee431eea1fcbf4acd3db72e7a7ba4d9", func := "coulomb/coulomblaw05.ProtectReacts", spec := "protectReacts", unfollowed := true, recurses := true, apart := false }
def ProtectReactsSaid : Prop := protectReactsRow.holds Try.pinned (OpenSpec.ofChange protectReactsSpec)

/-- ITS FALSE NEIGHBOUR: 'it returns false'. Refute it at one input. -/
def protectReactsWrong : ChangeSpec := { name := "protectReacts", fn := fun _ => fun
  | [d] => { results := [.lit (.bool false)], args := [d] }
  | _ => none }
def ProtectReactsWrongFalsely : Prop := protectReactsRow.holds Try.pinned (OpenSpec.ofChange protectReactsWrong)

/-- 'coulomblaw05.ProtectCrash': WHATEVER THE INPUT: true; the input reads as it did. -/
def protectCrashSpec : ChangeSpec := { name := "protectCrash", fn := fun _ => fun
  | [d] => { results := [.lit (.bool true)], args := [d] }
  | _ => none }
def protectCrashRow : OpenClaim := { program := "ytgiinciclnekjaa", sum := "81a4a7e010049ac91c74e184d97cf4b0cee431eea1fcbf4acd3db72e7a7ba4d9", func := "coulomb/coulomblaw05.ProtectCrash", spec := "protectCrash", unfollowed := true, recurses := true, apart := false }
def ProtectCrashSaid : Prop := protectCrashRow.holds Try.pinned (OpenSpec.ofChange protectCrashSpec)

/-- ITS FALSE NEIGHBOUR: 'it returns false'. Refute it at one input. -/
def protectCrashWrong : ChangeSpec := { name := "protectCrash", fn := fun _ => fun
  | [d] => { results := [.lit (.bool false)], args := [d] }
  | _ => none }
def ProtectCrashWrongFalsely : Prop := protectCrashRow.holds Try.pinned (OpenSpec.ofChange protectCrashWrong)

/-- 'coulomblaw05.ProtectCalm': WHATEVER THE INPUT: true; the input reads as it did. -/
def protectCalmSpec : ChangeSpec := { name := "protectCalm", fn := fun _ => fun
  | [d] => { results := [.lit (.bool true)], args := [d] }
  | _ => none }
def protectCalmRow : OpenClaim := { program := "ytgiinciclnekjaa", sum := "81a4a7e010049ac91c74e184d97cf4b0cee431eea1fcbf4acd3db72e7a7ba4d9", func := "coulomb/coulomblaw05.ProtectCalm", spec := "protectCalm", unfollowed := true, recurses := true, apart := false }
def ProtectCalmSaid : Prop := protectCalmRow.holds Try.pinned (OpenSpec.ofChange protectCalmSpec)

/-- ITS FALSE NEIGHBOUR: 'it returns false'. Refute it at one input. -/
def protectCalmWrong : ChangeSpec := { name := "protectCalm", fn := fun _ => fun
  | [d] => { results := [.lit (.bool false)], args := [d] }
  | _ => none }
def ProtectCalmWrongFalsely : Prop := protectCalmRow.holds Try.pinned (OpenSpec.ofChange protectCalmWrong)

/-- 'coulomblaw05.ProtectWelds': WHATEVER THE INPUT: true; the input reads as it did. -/
def protectWeldsSpec : ChangeSpec := { name := "protectWelds", fn := fun _ => fun
  | [d1, d2, d3, d4, d5, d6, d7] => { results := [.lit (.bool true)], args := [d1, d2, d3, d4, d5, d6, d7] }
  | _ => none }
def protectWeldsRow : OpenClaim := { program := "ytgiinciclnekjaa", sum := "81a4a7e010049ac91c74e184d97cf4b0cee431eea1fcbf4acd3db72e7a7ba4d9", func := "coulomb/coulomblaw05.ProtectWelds", spec := "protectWelds", unfollowed := true, recurses := true, apart := false }
def ProtectWeldsSaid : Prop := protectWeldsRow.holds Try.pinned (OpenSpec.ofChange protectWeldsSpec)

/-- ITS FALSE NEIGHBOUR: 'it returns false'. Refute it at one input. -/
def protectWeldsWrong : ChangeSpec := { name := "protectWelds", fn := fun _ => fun
  | [d1, d2, d3, d4, d5, d6, d7] => { results := [.lit (.bool false)], args := [d1, d2, d3, d4, d5, d6, d7] }
  | _ => none }
def ProtectWeldsWrongFalsely : Prop := protectWeldsRow.holds Try.pinned (OpenSpec.ofChange protectWeldsWrong)

/- THE SECOND FORM. 'bulk': how many values and letters a reading holds, each counted each time it is reached (what is shared counts as often as it is met; a slice's spare places count too). A statement '..UptoSaid' is the law's where the arguments, and the package variables that the reading takes, are together of bulk at most 1048576: NARROWER than '..Said'. Prove '..Said' where nothing that the law and all that it calls make is longer than what came in: it says more and counts as full. Else prove '..UptoSaid'. A law counts once. -/
mutual
def uptoBulk {H : Type} : DataW H → Nat
  | .lit (.string bytes) => bytes.length + 1
  | .lit _ => 1
  | .nil => 1
  | .ptr d => uptoBulk d + 1
  | .slice elems spare => uptoBulkAll elems + uptoBulkAll spare + 1
  | .agg parts => uptoBulkAll parts + 1
  | .iface _ d => uptoBulk d + 1
  | .map entries => uptoBulkEntries entries + 1
  | .held _ => 1
def uptoBulkAll {H : Type} : List (DataW H) → Nat
  | [] => 0
  | d :: r => uptoBulk d + uptoBulkAll r
def uptoBulkEntries {H : Type} : List (Lit × DataW H) → Nat
  | [] => 0
  | x :: r => uptoBulkEntry x + uptoBulkEntries r
def uptoBulkEntry {H : Type} : Lit × DataW H → Nat
  | (.string bytes, d) => bytes.length + uptoBulk d + 1
  | (_, d) => uptoBulk d + 1
 end
def uptoSmall : (H : Type) → List (DataW H) → Bool := fun _ ds => decide (uptoBulkAll ds ≤ 1048576)
def OpenSpec.upto (s : _root_.Go.ChangeSpec) : _root_.Go.OpenSpec := { _root_.Go.OpenSpec.ofChange s with cond := some uptoSmall }

/-- 'coulomblaw05.ProtectDead', WHERE WHAT IT READS IS OF BULK AT MOST 1048576: true; the input reads as it did. -/
def protectDeadUptoRow : OpenClaim := { program := "ytgiinciclnekjaa", sum := "81a4a7e010049ac91c74e184d97cf4b0cee431eea1fcbf4acd3db72e7a7ba4d9", func := "coulomb/coulomblaw05.ProtectDead", spec := "protectDead", unfollowed := true, recurses := true, apart := false, narrowed := true }
def ProtectDeadUptoSaid : Prop := protectDeadUptoRow.holds Try.pinned (OpenSpec.upto protectDeadSpec)

/-- 'coulomblaw05.ProtectVoting', WHERE WHAT IT READS IS OF BULK AT MOST 1048576: true; the input reads as it did. -/
def protectVotingUptoRow : OpenClaim := { program := "ytgiinciclnekjaa", sum := "81a4a7e010049ac91c74e184d97cf4b0cee431eea1fcbf4acd3db72e7a7ba4d9", func := "coulomb/coulomblaw05.ProtectVoting", spec := "protectVoting", unfollowed := true, recurses := true, apart := false, narrowed := true }
def ProtectVotingUptoSaid : Prop := protectVotingUptoRow.holds Try.pinned (OpenSpec.upto protectVotingSpec)

/-- 'coulomblaw05.ProtectMelts', WHERE WHAT IT READS IS OF BULK AT MOST 1048576: true; the input reads as it did. -/
def protectMeltsUptoRow : OpenClaim := { program := "ytgiinciclnekjaa", sum := "81a4a7e010049ac91c74e184d97cf4b0cee431eea1fcbf4acd3db72e7a7ba4d9", func := "coulomb/coulomblaw05.ProtectMelts", spec := "protectMelts", unfollowed := true, recurses := true, apart := false, narrowed := true }
def ProtectMeltsUptoSaid : Prop := protectMeltsUptoRow.holds Try.pinned (OpenSpec.upto protectMeltsSpec)

/-- 'coulomblaw05.ProtectFuses', WHERE WHAT IT READS IS OF BULK AT MOST 1048576: true; the input reads as it did. -/
def protectFusesUptoRow : OpenClaim := { program := "ytgiinciclnekjaa", sum := "81a4a7e010049ac91c74e184d97cf4b0cee431eea1fcbf4acd3db72e7a7ba4d9", func := "coulomb/coulomblaw05.ProtectFuses", spec := "protectFuses", unfollowed := true, recurses := true, apart := false, narrowed := true }
def ProtectFusesUptoSaid : Prop := protectFusesUptoRow.holds Try.pinned (OpenSpec.upto protectFusesSpec)

/-- 'coulomblaw05.ProtectVotes', WHERE WHAT IT READS IS OF BULK AT MOST 1048576: true; the input reads as it did. -/
def protectVotesUptoRow : OpenClaim := { program := "ytgiinciclnekjaa", sum := "81a4a7e010049ac91c74e184d97cf4b0cee431eea1fcbf4acd3db72e7a7ba4d9", func := "coulomb/coulomblaw05.ProtectVotes", spec := "protectVotes", unfollowed := true, recurses := true, apart := false, narrowed := true }
def ProtectVotesUptoSaid : Prop := protectVotesUptoRow.holds Try.pinned (OpenSpec.upto protectVotesSpec)

/-- 'coulomblaw05.ProtectPlant', WHERE WHAT IT READS IS OF BULK AT MOST 1048576: true; the input reads as it did. -/
def protectPlantUptoRow : OpenClaim := { program := "ytgiinciclnekjaa", sum := "81a4a7e010049ac91c74e184d97cf4b0cee431eea1fcbf4acd3db72e7a7ba4d9", func := "coulomb/coulomblaw05.ProtectPlant", spec := "protectPlant", unfollowed := true, recurses := true, apart := false, narrowed := true }
def ProtectPlantUptoSaid : Prop := protectPlantUptoRow.holds Try.pinned (OpenSpec.upto protectPlantSpec)

/-- 'coulomblaw05.ProtectNil', WHERE WHAT IT READS IS OF BULK AT MOST 1048576: true; the input reads as it did. -/
def protectNilUptoRow : OpenClaim := { program := "ytgiinciclnekjaa", sum := "81a4a7e010049ac91c74e184d97cf4b0cee431eea1fcbf4acd3db72e7a7ba4d9", func := "coulomb/coulomblaw05.ProtectNil", spec := "protectNil", unfollowed := true, recurses := true, apart := false, narrowed := true }
def ProtectNilUptoSaid : Prop := protectNilUptoRow.holds Try.pinned (OpenSpec.upto protectNilSpec)

/-- 'coulomblaw05.ProtectReacts', WHERE WHAT IT READS IS OF BULK AT MOST 1048576: true; the input reads as it did. -/
def protectReactsUptoRow : OpenClaim := { program := "ytgiinciclnekjaa", sum := "81a4a7e010049ac91c74e184d97cf4b0cee431eea1fcbf4acd3db72e7a7ba4d9", func := "coulomb/coulomblaw05.ProtectReacts", spec := "protectReacts", unfollowed := true, recurses := true, apart := false, narrowed := true }
def ProtectReactsUptoSaid : Prop := protectReactsUptoRow.holds Try.pinned (OpenSpec.upto protectReactsSpec)

/-- 'coulomblaw05.ProtectCrash', WHERE WHAT IT READS IS OF BULK AT MOST 1048576: true; the input reads as it did. -/
def protectCrashUptoRow : OpenClaim := { program := "ytgiinciclnekjaa", sum := "81a4a7e010049ac91c74e184d97cf4b0cee431eea1fcbf4acd3db72e7a7ba4d9", func := "coulomb/coulomblaw05.ProtectCrash", spec := "protectCrash", unfollowed := true, recurses := true, apart := false, narrowed := true }
def ProtectCrashUptoSaid : Prop := protectCrashUptoRow.holds Try.pinned (OpenSpec.upto protectCrashSpec)

/-- 'coulomblaw05.ProtectCalm', WHERE WHAT IT READS IS OF BULK AT MOST 1048576: true; the input reads as it did. -/
def protectCalmUptoRow : OpenClaim := { program := "ytgiinciclnekjaa", sum := "81a4a7e010049ac91c74e184d97cf4b0cee431eea1fcbf4acd3db72e7a7ba4d9", func := "coulomb/coulomblaw05.ProtectCalm", spec := "protectCalm", unfollowed := true, recurses := true, apart := false, narrowed := true }
def ProtectCalmUptoSaid : Prop := protectCalmUptoRow.holds Try.pinned (OpenSpec.upto protectCalmSpec)

/-- 'coulomblaw05.ProtectWelds', WHERE WHAT IT READS IS OF BULK AT MOST 1048576: true; the input reads as it did. -/
def protectWeldsUptoRow : OpenClaim := { program := "ytgiinciclnekjaa", sum := "81a4a7e010049ac91c74e184d97cf4b0cee431eea1fcbf4acd3db72e7a7ba4d9", func := "coulomb/coulomblaw05.ProtectWelds", spec := "protectWelds", unfollowed := true, recurses := true, apart := false, narrowed := true }
def ProtectWeldsUptoSaid : Prop := protectWeldsUptoRow.holds Try.pinned (OpenSpec.upto protectWeldsSpec)

end Rows
end Go.Proofs.Ytgiinciclnekjaa
