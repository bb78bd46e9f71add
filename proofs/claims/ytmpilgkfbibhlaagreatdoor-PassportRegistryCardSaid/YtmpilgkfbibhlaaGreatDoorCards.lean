/-
  DERIVED. GIVEN WITH THE SEED: THE CARDS: each row of YtmpilgkfbibhlaaGreatDoorRows.lean that lists a variable, with what it lists TIED to the program's text (the seventh form; the later family's looks); each row that meets fmt, with fmt's text TOLD by the authors' own Lean function (tested against real Go, not proved from fmt's source: count such statements apart). THE CARD IS WHAT COUNTS. Prove the row's statement (the work); the ties are given (YtmpilgkfbibhlaaGreatDoorTie.lean); close each card by the builder's one call (the guide's Derived/Test/ToyasCard.lean, 'card_holds'). Laid BY PROGRAM, IN A SANDBOX (cutbox-door.mjs). By AI agents, Wed Nov 11 2026. No macro, syntax, notation, axiom, sorry.
-/
import Derived.Test.YtmpilgkfbibhlaaGreatDoorRows
import GoSem.ClaimSeven
namespace Go.Proofs.YtmpilgkfbibhlaaGreatDoor
namespace Rows

/-- THE TIED CARD OF 'coulomblaw07.PassportVerifies'. -/
def passportVerifiesCard : Claim7 := { stood := { row := passportVerifiesRow, standIns := [], harness := (true, "7cd1ab14b13c1434c64699f22fb25d186d113f2950c82dffac6fcf9b274c8633"), looks := true }, kinds := [], alts := [], laidByText := true, laidKinds := [.data, .data, .data, .sentinel, .sentinel, .sentinel], laidTests := true, laidLooks := .later }
def PassportVerifiesCardSaid : Prop := Claim7.holds Tryz.pinned (.plain (OpenSpec.ofChange passportVerifiesSpec)) passportVerifiesCard

/-- THE TIED CARD OF 'coulomblaw07.PassportPads'. -/
def passportPadsCard : Claim7 := { stood := { row := passportPadsRow, standIns := [], harness := (true, "7cd1ab14b13c1434c64699f22fb25d186d113f2950c82dffac6fcf9b274c8633"), looks := true }, kinds := [], alts := [], laidByText := true, laidKinds := [.data, .data, .data, .sentinel, .sentinel, .sentinel], laidTests := true, laidLooks := .later }
def PassportPadsCardSaid : Prop := Claim7.holds Tryz.pinned (.plain (OpenSpec.ofChange passportPadsSpec)) passportPadsCard

/-- THE TIED CARD OF 'coulomblaw07.PassportRecalls'. -/
def passportRecallsCard : Claim7 := { stood := { row := passportRecallsRow, standIns := [], harness := (true, "7cd1ab14b13c1434c64699f22fb25d186d113f2950c82dffac6fcf9b274c8633"), looks := true }, kinds := [], alts := [], laidByText := true, laidKinds := [.data, .data, .data, .sentinel, .sentinel, .sentinel], laidTests := true, laidLooks := .later }
def PassportRecallsCardSaid : Prop := Claim7.holds Tryz.pinned (.plain (OpenSpec.ofChange passportRecallsSpec)) passportRecallsCard

/-- THE TIED CARD OF 'coulomblaw07.PassportConserves'. -/
def passportConservesCard : Claim7 := { stood := { row := passportConservesRow, standIns := [], harness := (true, "7cd1ab14b13c1434c64699f22fb25d186d113f2950c82dffac6fcf9b274c8633"), looks := true }, kinds := [], alts := [], laidByText := true, laidKinds := [.data, .data, .data, .sentinel, .sentinel, .sentinel], laidTests := true, laidLooks := .later }
def PassportConservesCardSaid : Prop := Claim7.holds Tryz.pinned (.plain (OpenSpec.ofChange passportConservesSpec)) passportConservesCard

/-- THE TIED CARD OF 'coulomblaw07.PassportRegistry'. -/
def passportRegistryCard : Claim7 := { stood := { row := passportRegistryRow, standIns := [], harness := (true, "7cd1ab14b13c1434c64699f22fb25d186d113f2950c82dffac6fcf9b274c8633"), looks := true }, kinds := [], alts := [], laidByText := true, laidKinds := [.data, .data, .data, .sentinel, .sentinel, .sentinel], laidTests := true, laidLooks := .later }
def PassportRegistryCardSaid : Prop := Claim7.holds Tryz.pinned (.plain (OpenSpec.ofChange passportRegistrySpec)) passportRegistryCard

/-- THE TIED CARD OF 'coulomblaw07.PassportGrades'. -/
def passportGradesCard : Claim7 := { stood := { row := passportGradesRow, standIns := [], harness := (true, "7cd1ab14b13c1434c64699f22fb25d186d113f2950c82dffac6fcf9b274c8633"), looks := true }, kinds := [], alts := [], laidByText := true, laidKinds := [.data, .data, .data, .sentinel, .sentinel, .sentinel], laidTests := true, laidLooks := .later }
def PassportGradesCardSaid : Prop := Claim7.holds Tryz.pinned (.plain (OpenSpec.ofChange passportGradesSpec)) passportGradesCard

/-- THE SECOND FORM's CARD OF 'coulomblaw07.PassportVerifies'. -/
def passportVerifiesUptoCard : Claim7 := { stood := { row := passportVerifiesUptoRow, standIns := [], harness := (true, "7cd1ab14b13c1434c64699f22fb25d186d113f2950c82dffac6fcf9b274c8633"), looks := true }, kinds := [], alts := [], laidByText := true, laidKinds := [.data, .data, .data, .sentinel, .sentinel, .sentinel], laidTests := true, laidLooks := .later }
def PassportVerifiesUptoCardSaid : Prop := Claim7.holds Tryz.pinned (.plain (OpenSpec.upto passportVerifiesSpec)) passportVerifiesUptoCard

/-- THE SECOND FORM's CARD OF 'coulomblaw07.PassportPads'. -/
def passportPadsUptoCard : Claim7 := { stood := { row := passportPadsUptoRow, standIns := [], harness := (true, "7cd1ab14b13c1434c64699f22fb25d186d113f2950c82dffac6fcf9b274c8633"), looks := true }, kinds := [], alts := [], laidByText := true, laidKinds := [.data, .data, .data, .sentinel, .sentinel, .sentinel], laidTests := true, laidLooks := .later }
def PassportPadsUptoCardSaid : Prop := Claim7.holds Tryz.pinned (.plain (OpenSpec.upto passportPadsSpec)) passportPadsUptoCard

/-- THE SECOND FORM's CARD OF 'coulomblaw07.PassportRecalls'. -/
def passportRecallsUptoCard : Claim7 := { stood := { row := passportRecallsUptoRow, standIns := [], harness := (true, "7cd1ab14b13c1434c64699f22fb25d186d113f2950c82dffac6fcf9b274c8633"), looks := true }, kinds := [], alts := [], laidByText := true, laidKinds := [.data, .data, .data, .sentinel, .sentinel, .sentinel], laidTests := true, laidLooks := .later }
def PassportRecallsUptoCardSaid : Prop := Claim7.holds Tryz.pinned (.plain (OpenSpec.upto passportRecallsSpec)) passportRecallsUptoCard

/-- THE SECOND FORM's CARD OF 'coulomblaw07.PassportConserves'. -/
def passportConservesUptoCard : Claim7 := { stood := { row := passportConservesUptoRow, standIns := [], harness := (true, "7cd1ab14b13c1434c64699f22fb25d186d113f2950c82dffac6fcf9b274c8633"), looks := true }, kinds := [], alts := [], laidByText := true, laidKinds := [.data, .data, .data, .sentinel, .sentinel, .sentinel], laidTests := true, laidLooks := .later }
def PassportConservesUptoCardSaid : Prop := Claim7.holds Tryz.pinned (.plain (OpenSpec.upto passportConservesSpec)) passportConservesUptoCard

/-- THE SECOND FORM's CARD OF 'coulomblaw07.PassportRegistry'. -/
def passportRegistryUptoCard : Claim7 := { stood := { row := passportRegistryUptoRow, standIns := [], harness := (true, "7cd1ab14b13c1434c64699f22fb25d186d113f2950c82dffac6fcf9b274c8633"), looks := true }, kinds := [], alts := [], laidByText := true, laidKinds := [.data, .data, .data, .sentinel, .sentinel, .sentinel], laidTests := true, laidLooks := .later }
def PassportRegistryUptoCardSaid : Prop := Claim7.holds Tryz.pinned (.plain (OpenSpec.upto passportRegistrySpec)) passportRegistryUptoCard

/-- THE SECOND FORM's CARD OF 'coulomblaw07.PassportGrades'. -/
def passportGradesUptoCard : Claim7 := { stood := { row := passportGradesUptoRow, standIns := [], harness := (true, "7cd1ab14b13c1434c64699f22fb25d186d113f2950c82dffac6fcf9b274c8633"), looks := true }, kinds := [], alts := [], laidByText := true, laidKinds := [.data, .data, .data, .sentinel, .sentinel, .sentinel], laidTests := true, laidLooks := .later }
def PassportGradesUptoCardSaid : Prop := Claim7.holds Tryz.pinned (.plain (OpenSpec.upto passportGradesSpec)) passportGradesUptoCard
end Rows
end Go.Proofs.YtmpilgkfbibhlaaGreatDoor
