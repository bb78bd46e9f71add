/-
  DERIVED. GIVEN WITH THE SEED: THE CARDS: each row of YtfepehjbcmkdjaaDoorRows.lean that lists a variable, with what it lists TIED to the program's text (the seventh form; the later family's looks); each row that meets fmt, with fmt's text TOLD by the authors' own Lean function (tested against real Go, not proved from fmt's source: count such statements apart). THE CARD IS WHAT COUNTS. Prove the row's statement (the work); the ties are given (YtfepehjbcmkdjaaDoorTie.lean); close each card by the builder's one call (the guide's Derived/Test/ToyasCard.lean, 'card_holds'). Laid BY PROGRAM, IN A SANDBOX (cutbox-door.mjs). By AI agents, Wed Nov 11 2026. No macro, syntax, notation, axiom, sorry.
-/
import Derived.Test.YtfepehjbcmkdjaaDoorRows
import GoSem.ClaimSeven
namespace Go.Proofs.YtfepehjbcmkdjaaDoor
namespace Rows

/-- THE TIED CARD OF 'coulomblaw07.PassportCollides'. -/
def passportCollidesCard : Claim7 := { stood := { row := passportCollidesRow, standIns := [], harness := (true, "c37647b5f7ea6437bac2897765a74ae7116b17c163a828777d3815f8d39fee1d"), looks := true }, kinds := [], alts := [], laidByText := true, laidKinds := [.data, .data, .data, .sentinel, .sentinel], laidTests := true, laidLooks := .later }
def PassportCollidesCardSaid : Prop := Claim7.holds Tryd.pinned (.plain (OpenSpec.ofChange passportCollidesSpec)) passportCollidesCard

/-- THE TIED CARD OF 'coulomblaw07.PassportFits'. -/
def passportFitsCard : Claim7 := { stood := { row := passportFitsRow, standIns := [], harness := (true, "c37647b5f7ea6437bac2897765a74ae7116b17c163a828777d3815f8d39fee1d"), looks := true }, kinds := [], alts := [], laidByText := true, laidKinds := [.data, .data, .data, .sentinel, .sentinel], laidTests := true, laidLooks := .later }
def PassportFitsCardSaid : Prop := Claim7.holds Tryd.pinned (.plain (OpenSpec.ofChange passportFitsSpec)) passportFitsCard

/-- THE TIED CARD OF 'coulomblaw07.PassportDigests'. -/
def passportDigestsCard : Claim7 := { stood := { row := passportDigestsRow, standIns := [], harness := (true, "c37647b5f7ea6437bac2897765a74ae7116b17c163a828777d3815f8d39fee1d"), looks := true }, kinds := [], alts := [], laidByText := true, laidKinds := [.data, .data, .data, .sentinel, .sentinel], laidTests := true, laidLooks := .later }
def PassportDigestsCardSaid : Prop := Claim7.holds Tryd.pinned (.plain (OpenSpec.ofChange passportDigestsSpec)) passportDigestsCard

/-- THE TIED CARD OF 'coulomblaw07.PassportForges'. -/
def passportForgesCard : Claim7 := { stood := { row := passportForgesRow, standIns := [], harness := (true, "c37647b5f7ea6437bac2897765a74ae7116b17c163a828777d3815f8d39fee1d"), looks := true }, kinds := [], alts := [], laidByText := true, laidKinds := [.data, .data, .data, .sentinel, .sentinel], laidTests := true, laidLooks := .later }
def PassportForgesCardSaid : Prop := Claim7.holds Tryd.pinned (.plain (OpenSpec.ofChange passportForgesSpec)) passportForgesCard

/-- THE TIED CARD OF 'coulomblaw07.PassportApart'. -/
def passportApartCard : Claim7 := { stood := { row := passportApartRow, standIns := [], harness := (true, "c37647b5f7ea6437bac2897765a74ae7116b17c163a828777d3815f8d39fee1d"), looks := true }, kinds := [], alts := [], laidByText := true, laidKinds := [.data, .data, .data, .sentinel, .sentinel, .sentinel], laidTests := true, laidLooks := .later }
def PassportApartCardSaid : Prop := Claim7.holds Tryd.pinned (.plain (OpenSpec.ofChange passportApartSpec)) passportApartCard

/-- THE SECOND FORM's CARD OF 'coulomblaw07.PassportCollides'. -/
def passportCollidesUptoCard : Claim7 := { stood := { row := passportCollidesUptoRow, standIns := [], harness := (true, "c37647b5f7ea6437bac2897765a74ae7116b17c163a828777d3815f8d39fee1d"), looks := true }, kinds := [], alts := [], laidByText := true, laidKinds := [.data, .data, .data, .sentinel, .sentinel], laidTests := true, laidLooks := .later }
def PassportCollidesUptoCardSaid : Prop := Claim7.holds Tryd.pinned (.plain (OpenSpec.upto passportCollidesSpec)) passportCollidesUptoCard

/-- THE SECOND FORM's CARD OF 'coulomblaw07.PassportFits'. -/
def passportFitsUptoCard : Claim7 := { stood := { row := passportFitsUptoRow, standIns := [], harness := (true, "c37647b5f7ea6437bac2897765a74ae7116b17c163a828777d3815f8d39fee1d"), looks := true }, kinds := [], alts := [], laidByText := true, laidKinds := [.data, .data, .data, .sentinel, .sentinel], laidTests := true, laidLooks := .later }
def PassportFitsUptoCardSaid : Prop := Claim7.holds Tryd.pinned (.plain (OpenSpec.upto passportFitsSpec)) passportFitsUptoCard

/-- THE SECOND FORM's CARD OF 'coulomblaw07.PassportDigests'. -/
def passportDigestsUptoCard : Claim7 := { stood := { row := passportDigestsUptoRow, standIns := [], harness := (true, "c37647b5f7ea6437bac2897765a74ae7116b17c163a828777d3815f8d39fee1d"), looks := true }, kinds := [], alts := [], laidByText := true, laidKinds := [.data, .data, .data, .sentinel, .sentinel], laidTests := true, laidLooks := .later }
def PassportDigestsUptoCardSaid : Prop := Claim7.holds Tryd.pinned (.plain (OpenSpec.upto passportDigestsSpec)) passportDigestsUptoCard

/-- THE SECOND FORM's CARD OF 'coulomblaw07.PassportForges'. -/
def passportForgesUptoCard : Claim7 := { stood := { row := passportForgesUptoRow, standIns := [], harness := (true, "c37647b5f7ea6437bac2897765a74ae7116b17c163a828777d3815f8d39fee1d"), looks := true }, kinds := [], alts := [], laidByText := true, laidKinds := [.data, .data, .data, .sentinel, .sentinel], laidTests := true, laidLooks := .later }
def PassportForgesUptoCardSaid : Prop := Claim7.holds Tryd.pinned (.plain (OpenSpec.upto passportForgesSpec)) passportForgesUptoCard

/-- THE SECOND FORM's CARD OF 'coulomblaw07.PassportApart'. -/
def passportApartUptoCard : Claim7 := { stood := { row := passportApartUptoRow, standIns := [], harness := (true, "c37647b5f7ea6437bac2897765a74ae7116b17c163a828777d3815f8d39fee1d"), looks := true }, kinds := [], alts := [], laidByText := true, laidKinds := [.data, .data, .data, .sentinel, .sentinel, .sentinel], laidTests := true, laidLooks := .later }
def PassportApartUptoCardSaid : Prop := Claim7.holds Tryd.pinned (.plain (OpenSpec.upto passportApartSpec)) passportApartUptoCard
end Rows
end Go.Proofs.YtfepehjbcmkdjaaDoor
