/-
  DERIVED. GIVEN WITH THE SEED: THE CARDS: each row of YtlhponankanlmaaGreatDoorRows.lean that lists a variable, with what it lists TIED to the program's text (the seventh form; the later family's looks); each row that meets fmt, with fmt's text TOLD by the authors' own Lean function (tested against real Go, not proved from fmt's source: count such statements apart). THE CARD IS WHAT COUNTS. Prove the row's statement (the work); the ties are given (YtlhponankanlmaaGreatDoorTie.lean); close each card by the builder's one call (the guide's Derived/Test/ToyasCard.lean, 'card_holds'). Laid BY PROGRAM, IN A SANDBOX (cutbox-door.mjs). By AI agents, Wed Nov 11 2026. No macro, syntax, notation, axiom, sorry.
-/
import Derived.Test.YtlhponankanlmaaGreatDoorRows
import GoSem.ClaimSeven
namespace Go.Proofs.YtlhponankanlmaaGreatDoor
namespace Rows

/-- THE TIED CARD OF 'coulomblaw07.PassportEvents'. -/
def passportEventsCard : Claim7 := { stood := { row := passportEventsRow, standIns := [], harness := (true, "a1d239e1e815919ed5a1ecbd23706b4b73afc0348eacb0b9cbfa7740326b64b1"), looks := true }, kinds := [], alts := [], laidByText := true, laidKinds := [.data, .data, .data, .data, .sentinel, .sentinel, .sentinel, .pinned], laidTests := true, laidLooks := .later }
def PassportEventsCardSaid : Prop := Claim7.holds Tryz.pinned (.plain (OpenSpec.ofChange passportEventsSpec)) passportEventsCard

/-- THE TIED CARD OF 'coulomblaw07.PassportPads'. -/
def passportPadsCard : Claim7 := { stood := { row := passportPadsRow, standIns := [], harness := (true, "a1d239e1e815919ed5a1ecbd23706b4b73afc0348eacb0b9cbfa7740326b64b1"), looks := true }, kinds := [], alts := [], laidByText := true, laidKinds := [.data, .data, .data, .sentinel, .sentinel, .sentinel], laidTests := true, laidLooks := .later }
def PassportPadsCardSaid : Prop := Claim7.holds Tryz.pinned (.plain (OpenSpec.ofChange passportPadsSpec)) passportPadsCard

/-- THE TIED CARD OF 'coulomblaw07.PassportRecalls'. -/
def passportRecallsCard : Claim7 := { stood := { row := passportRecallsRow, standIns := [], harness := (true, "a1d239e1e815919ed5a1ecbd23706b4b73afc0348eacb0b9cbfa7740326b64b1"), looks := true }, kinds := [], alts := [], laidByText := true, laidKinds := [.data, .data, .data, .sentinel, .sentinel, .sentinel], laidTests := true, laidLooks := .later }
def PassportRecallsCardSaid : Prop := Claim7.holds Tryz.pinned (.plain (OpenSpec.ofChange passportRecallsSpec)) passportRecallsCard

/-- THE TIED CARD OF 'coulomblaw07.PassportNil'. -/
def passportNilCard : Claim7 := { stood := { row := passportNilRow, standIns := [], harness := (true, "a1d239e1e815919ed5a1ecbd23706b4b73afc0348eacb0b9cbfa7740326b64b1"), looks := true }, kinds := [], alts := [], laidByText := true, laidKinds := [.data, .data, .data, .sentinel, .sentinel, .sentinel], laidTests := true, laidLooks := .later }
def PassportNilCardSaid : Prop := Claim7.holds Tryz.pinned (.plain (OpenSpec.ofChange passportNilSpec)) passportNilCard

/-- THE TIED CARD OF 'coulomblaw07.PassportConserves'. -/
def passportConservesCard : Claim7 := { stood := { row := passportConservesRow, standIns := [], harness := (true, "a1d239e1e815919ed5a1ecbd23706b4b73afc0348eacb0b9cbfa7740326b64b1"), looks := true }, kinds := [], alts := [], laidByText := true, laidKinds := [.data, .data, .data, .sentinel, .sentinel, .sentinel], laidTests := true, laidLooks := .later }
def PassportConservesCardSaid : Prop := Claim7.holds Tryz.pinned (.plain (OpenSpec.ofChange passportConservesSpec)) passportConservesCard

/-- THE TIED CARD OF 'coulomblaw07.PassportGrades'. -/
def passportGradesCard : Claim7 := { stood := { row := passportGradesRow, standIns := [], harness := (true, "a1d239e1e815919ed5a1ecbd23706b4b73afc0348eacb0b9cbfa7740326b64b1"), looks := true }, kinds := [], alts := [], laidByText := true, laidKinds := [.data, .data, .data, .sentinel, .sentinel, .sentinel], laidTests := true, laidLooks := .later }
def PassportGradesCardSaid : Prop := Claim7.holds Tryz.pinned (.plain (OpenSpec.ofChange passportGradesSpec)) passportGradesCard

/-- THE TIED CARD OF 'coulomblaw07.PassportVerifies'. -/
def passportVerifiesCard : Claim7 := { stood := { row := passportVerifiesRow, standIns := [], harness := (true, "a1d239e1e815919ed5a1ecbd23706b4b73afc0348eacb0b9cbfa7740326b64b1"), looks := true }, kinds := [], alts := [], laidByText := true, laidKinds := [.data, .data, .data, .sentinel, .sentinel, .sentinel], laidTests := true, laidLooks := .later }
def PassportVerifiesCardSaid : Prop := Claim7.holds Tryz.pinned (.plain (OpenSpec.ofChange passportVerifiesSpec)) passportVerifiesCard

/-- THE SECOND FORM's CARD OF 'coulomblaw07.PassportEvents'. -/
def passportEventsUptoCard : Claim7 := { stood := { row := passportEventsUptoRow, standIns := [], harness := (true, "a1d239e1e815919ed5a1ecbd23706b4b73afc0348eacb0b9cbfa7740326b64b1"), looks := true }, kinds := [], alts := [], laidByText := true, laidKinds := [.data, .data, .data, .data, .sentinel, .sentinel, .sentinel, .pinned], laidTests := true, laidLooks := .later }
def PassportEventsUptoCardSaid : Prop := Claim7.holds Tryz.pinned (.plain (OpenSpec.upto passportEventsSpec)) passportEventsUptoCard

/-- THE SECOND FORM's CARD OF 'coulomblaw07.PassportPads'. -/
def passportPadsUptoCard : Claim7 := { stood := { row := passportPadsUptoRow, standIns := [], harness := (true, "a1d239e1e815919ed5a1ecbd23706b4b73afc0348eacb0b9cbfa7740326b64b1"), looks := true }, kinds := [], alts := [], laidByText := true, laidKinds := [.data, .data, .data, .sentinel, .sentinel, .sentinel], laidTests := true, laidLooks := .later }
def PassportPadsUptoCardSaid : Prop := Claim7.holds Tryz.pinned (.plain (OpenSpec.upto passportPadsSpec)) passportPadsUptoCard

/-- THE SECOND FORM's CARD OF 'coulomblaw07.PassportRecalls'. -/
def passportRecallsUptoCard : Claim7 := { stood := { row := passportRecallsUptoRow, standIns := [], harness := (true, "a1d239e1e815919ed5a1ecbd23706b4b73afc0348eacb0b9cbfa7740326b64b1"), looks := true }, kinds := [], alts := [], laidByText := true, laidKinds := [.data, .data, .data, .sentinel, .sentinel, .sentinel], laidTests := true, laidLooks := .later }
def PassportRecallsUptoCardSaid : Prop := Claim7.holds Tryz.pinned (.plain (OpenSpec.upto passportRecallsSpec)) passportRecallsUptoCard

/-- THE SECOND FORM's CARD OF 'coulomblaw07.PassportNil'. -/
def passportNilUptoCard : Claim7 := { stood := { row := passportNilUptoRow, standIns := [], harness := (true, "a1d239e1e815919ed5a1ecbd23706b4b73afc0348eacb0b9cbfa7740326b64b1"), looks := true }, kinds := [], alts := [], laidByText := true, laidKinds := [.data, .data, .data, .sentinel, .sentinel, .sentinel], laidTests := true, laidLooks := .later }
def PassportNilUptoCardSaid : Prop := Claim7.holds Tryz.pinned (.plain (OpenSpec.upto passportNilSpec)) passportNilUptoCard

/-- THE SECOND FORM's CARD OF 'coulomblaw07.PassportConserves'. -/
def passportConservesUptoCard : Claim7 := { stood := { row := passportConservesUptoRow, standIns := [], harness := (true, "a1d239e1e815919ed5a1ecbd23706b4b73afc0348eacb0b9cbfa7740326b64b1"), looks := true }, kinds := [], alts := [], laidByText := true, laidKinds := [.data, .data, .data, .sentinel, .sentinel, .sentinel], laidTests := true, laidLooks := .later }
def PassportConservesUptoCardSaid : Prop := Claim7.holds Tryz.pinned (.plain (OpenSpec.upto passportConservesSpec)) passportConservesUptoCard

/-- THE SECOND FORM's CARD OF 'coulomblaw07.PassportGrades'. -/
def passportGradesUptoCard : Claim7 := { stood := { row := passportGradesUptoRow, standIns := [], harness := (true, "a1d239e1e815919ed5a1ecbd23706b4b73afc0348eacb0b9cbfa7740326b64b1"), looks := true }, kinds := [], alts := [], laidByText := true, laidKinds := [.data, .data, .data, .sentinel, .sentinel, .sentinel], laidTests := true, laidLooks := .later }
def PassportGradesUptoCardSaid : Prop := Claim7.holds Tryz.pinned (.plain (OpenSpec.upto passportGradesSpec)) passportGradesUptoCard

/-- THE SECOND FORM's CARD OF 'coulomblaw07.PassportVerifies'. -/
def passportVerifiesUptoCard : Claim7 := { stood := { row := passportVerifiesUptoRow, standIns := [], harness := (true, "a1d239e1e815919ed5a1ecbd23706b4b73afc0348eacb0b9cbfa7740326b64b1"), looks := true }, kinds := [], alts := [], laidByText := true, laidKinds := [.data, .data, .data, .sentinel, .sentinel, .sentinel], laidTests := true, laidLooks := .later }
def PassportVerifiesUptoCardSaid : Prop := Claim7.holds Tryz.pinned (.plain (OpenSpec.upto passportVerifiesSpec)) passportVerifiesUptoCard
end Rows
end Go.Proofs.YtlhponankanlmaaGreatDoor
