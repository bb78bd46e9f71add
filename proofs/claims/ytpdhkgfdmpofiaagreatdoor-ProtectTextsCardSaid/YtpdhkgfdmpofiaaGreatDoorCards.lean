/-
  DERIVED. GIVEN WITH THE SEED: THE CARDS: each row of YtpdhkgfdmpofiaaGreatDoorRows.lean that lists a variable, with what it lists TIED to the program's text (the seventh form; the later family's looks); each row that meets fmt, with fmt's text TOLD by the authors' own Lean function (tested against real Go, not proved from fmt's source: count such statements apart). THE CARD IS WHAT COUNTS. Prove the row's statement (the work); the ties are given (YtpdhkgfdmpofiaaGreatDoorTie.lean); close each card by the builder's one call (the guide's Derived/Test/ToyasCard.lean, 'card_holds'). Laid BY PROGRAM, IN A SANDBOX (cutbox-door.mjs). By AI agents, Wed Nov 11 2026. No macro, syntax, notation, axiom, sorry.
-/
import Derived.Test.YtpdhkgfdmpofiaaGreatDoorRows
import GoSem.ClaimSeven
namespace Go.Proofs.YtpdhkgfdmpofiaaGreatDoor
namespace Rows

/-- THE TIED CARD OF 'coulomblaw05.ProtectTexts'. -/
def protectTextsCard : Claim7 := { stood := { row := protectTextsRow, standIns := [], harness := (true, "0b564edca0ef15b735c0a286e7922bf0044a0891cf2c7554e9ec09ba781ed9ca"), looks := true }, kinds := [], alts := [], laidByText := true, laidKinds := [.data, .data, .data, .data, .sentinel, .sentinel, .pinned], laidTests := true, laidLooks := .later }
def ProtectTextsCardSaid : Prop := Claim7.holds Tryz.pinned (.plain (OpenSpec.ofChange protectTextsSpec)) protectTextsCard

/-- THE SECOND FORM's CARD OF 'coulomblaw05.ProtectTexts'. -/
def protectTextsUptoCard : Claim7 := { stood := { row := protectTextsUptoRow, standIns := [], harness := (true, "0b564edca0ef15b735c0a286e7922bf0044a0891cf2c7554e9ec09ba781ed9ca"), looks := true }, kinds := [], alts := [], laidByText := true, laidKinds := [.data, .data, .data, .data, .sentinel, .sentinel, .pinned], laidTests := true, laidLooks := .later }
def ProtectTextsUptoCardSaid : Prop := Claim7.holds Tryz.pinned (.plain (OpenSpec.upto protectTextsSpec)) protectTextsUptoCard
end Rows
end Go.Proofs.YtpdhkgfdmpofiaaGreatDoor
