/-
  DERIVED. GIVEN WITH THE SEED: THE CARDS: each row of YtdelgbdiofkndaaGreatDoorRows.lean that lists a variable, with what it lists TIED to the program's text (the seventh form; the later family's looks); each row that meets fmt, with fmt's text TOLD by the authors' own Lean function (tested against real Go, not proved from fmt's source: count such statements apart). THE CARD IS WHAT COUNTS. Prove the row's statement (the work); the ties are given (YtdelgbdiofkndaaGreatDoorTie.lean); close each card by the builder's one call (the guide's Derived/Test/ToyasCard.lean, 'card_holds'). Laid BY PROGRAM, IN A SANDBOX (cutbox-door.mjs). By AI agents, Wed Nov 11 2026. No macro, syntax, notation, axiom, sorry.
-/
import Derived.Test.YtdelgbdiofkndaaGreatDoorRows
import GoSem.ClaimSeven
namespace Go.Proofs.YtdelgbdiofkndaaGreatDoor
namespace Rows

/-- THE TIED CARD OF 'coulomblaw07.PassportEvents'. -/
def passportEventsCard : Claim7 := { stood := { row := passportEventsRow, standIns := [], harness := (true, "cbabb4783c179ea8a42ac5606c0954edefc30b6ba570fd89cf560de9154d9701"), looks := true }, kinds := [], alts := [], laidByText := true, laidKinds := [.data, .data, .data, .data, .sentinel, .sentinel, .sentinel, .pinned], laidTests := true, laidLooks := .later }
def PassportEventsCardSaid : Prop := Claim7.holds Tryz.pinned (.plain (OpenSpec.ofChange passportEventsSpec)) passportEventsCard

/-- THE SECOND FORM's CARD OF 'coulomblaw07.PassportEvents'. -/
def passportEventsUptoCard : Claim7 := { stood := { row := passportEventsUptoRow, standIns := [], harness := (true, "cbabb4783c179ea8a42ac5606c0954edefc30b6ba570fd89cf560de9154d9701"), looks := true }, kinds := [], alts := [], laidByText := true, laidKinds := [.data, .data, .data, .data, .sentinel, .sentinel, .sentinel, .pinned], laidTests := true, laidLooks := .later }
def PassportEventsUptoCardSaid : Prop := Claim7.holds Tryz.pinned (.plain (OpenSpec.upto passportEventsSpec)) passportEventsUptoCard
end Rows
end Go.Proofs.YtdelgbdiofkndaaGreatDoor
