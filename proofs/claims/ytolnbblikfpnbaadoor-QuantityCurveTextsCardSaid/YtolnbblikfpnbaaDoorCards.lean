/-
  DERIVED. GIVEN WITH THE SEED: THE CARDS: each row of YtolnbblikfpnbaaDoorRows.lean that lists a variable, with what it lists TIED to the program's text (the seventh form; the later family's looks); each row that meets fmt, with fmt's text TOLD by the authors' own Lean function (tested against real Go, not proved from fmt's source: count such statements apart). THE CARD IS WHAT COUNTS. Prove the row's statement (the work); the ties are given (YtolnbblikfpnbaaDoorTie.lean); close each card by the builder's one call (the guide's Derived/Test/ToyasCard.lean, 'card_holds'). Laid BY PROGRAM, IN A SANDBOX (cutbox-door.mjs). By AI agents, Wed Nov 11 2026. No macro, syntax, notation, axiom, sorry.
-/
import Derived.Test.YtolnbblikfpnbaaDoorRows
import GoSem.ClaimSeven
namespace Go.Proofs.YtolnbblikfpnbaaDoor
namespace Rows

/-- THE TIED CARD OF 'coulomblaw01.QuantityTexts'. -/
def quantityTextsCard : Claim7 := { stood := { row := quantityTextsRow, standIns := [], harness := (true, "cba89f148b4fae01ff0446d9a8df38766740cd64c0c19658e4da8808b3a0a305"), looks := true }, kinds := [], alts := [], laidByText := true, laidKinds := [.data, .data, .data, .sentinel, .sentinel], laidTests := true, laidLooks := .later }
def QuantityTextsCardSaid : Prop := Claim7.holds Tryd.pinned (.plain (OpenSpec.ofChange quantityTextsSpec)) quantityTextsCard

/-- THE TIED CARD OF 'coulomblaw01.QuantityCurveTexts'. -/
def quantityCurveTextsCard : Claim7 := { stood := { row := quantityCurveTextsRow, standIns := [], harness := (true, "cba89f148b4fae01ff0446d9a8df38766740cd64c0c19658e4da8808b3a0a305"), looks := true }, kinds := [], alts := [], laidByText := true, laidKinds := [.data, .data, .data, .data, .sentinel, .sentinel, .pinned], laidTests := true, laidLooks := .later }
def QuantityCurveTextsCardSaid : Prop := Claim7.holds Tryd.pinned (.plain (OpenSpec.ofChange quantityCurveTextsSpec)) quantityCurveTextsCard

/-- THE SECOND FORM's CARD OF 'coulomblaw01.QuantityTexts'. -/
def quantityTextsUptoCard : Claim7 := { stood := { row := quantityTextsUptoRow, standIns := [], harness := (true, "cba89f148b4fae01ff0446d9a8df38766740cd64c0c19658e4da8808b3a0a305"), looks := true }, kinds := [], alts := [], laidByText := true, laidKinds := [.data, .data, .data, .sentinel, .sentinel], laidTests := true, laidLooks := .later }
def QuantityTextsUptoCardSaid : Prop := Claim7.holds Tryd.pinned (.plain (OpenSpec.upto quantityTextsSpec)) quantityTextsUptoCard

/-- THE SECOND FORM's CARD OF 'coulomblaw01.QuantityCurveTexts'. -/
def quantityCurveTextsUptoCard : Claim7 := { stood := { row := quantityCurveTextsUptoRow, standIns := [], harness := (true, "cba89f148b4fae01ff0446d9a8df38766740cd64c0c19658e4da8808b3a0a305"), looks := true }, kinds := [], alts := [], laidByText := true, laidKinds := [.data, .data, .data, .data, .sentinel, .sentinel, .pinned], laidTests := true, laidLooks := .later }
def QuantityCurveTextsUptoCardSaid : Prop := Claim7.holds Tryd.pinned (.plain (OpenSpec.upto quantityCurveTextsSpec)) quantityCurveTextsUptoCard
end Rows
end Go.Proofs.YtolnbblikfpnbaaDoor
