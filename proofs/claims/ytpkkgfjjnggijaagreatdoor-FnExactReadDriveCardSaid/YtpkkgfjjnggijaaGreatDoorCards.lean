/-
  DERIVED. GIVEN WITH THE SEED: THE CARDS: each row of YtpkkgfjjnggijaaGreatDoorRows.lean that lists a variable, with what it lists TIED to the program's text (the seventh form; the later family's looks); each row that meets fmt, with fmt's text TOLD by the authors' own Lean function (tested against real Go, not proved from fmt's source: count such statements apart). THE CARD IS WHAT COUNTS. Prove the row's statement (the work); the ties are given (YtpkkgfjjnggijaaGreatDoorTie.lean); close each card by the builder's one call (the guide's Derived/Test/ToyasCard.lean, 'card_holds'). Laid BY PROGRAM, IN A SANDBOX (cutbox-door.mjs). By AI agents, Wed Nov 11 2026. No macro, syntax, notation, axiom, sorry.
-/
import Derived.Test.YtpkkgfjjnggijaaGreatDoorRows
import GoSem.ClaimSeven
namespace Go.Proofs.YtpkkgfjjnggijaaGreatDoor
namespace Rows

/-- THE TIED CARD OF 'laws.FnExactReadDrive'. -/
def fnExactReadDriveCard : Claim7 := { stood := { row := fnExactReadDriveRow, standIns := [], harness := (true, "6325c2f80e0bda53d3d4b2441c6d34ea10fed33e78ab0ed35c270e5422f961b7"), looks := true }, kinds := [], alts := [], laidByText := true, laidKinds := [.data, .data, .data, .data, .sentinel, .sentinel, .pinned], laidTests := true, laidLooks := .later }
def FnExactReadDriveCardSaid : Prop := Claim7.holds Tryz.pinned (.plain (OpenSpec.ofChange fnExactReadDriveSpec)) fnExactReadDriveCard

/-- THE TIED CARD OF 'laws.FnExactReadRotor'. -/
def fnExactReadRotorCard : Claim7 := { stood := { row := fnExactReadRotorRow, standIns := [], harness := (true, "6325c2f80e0bda53d3d4b2441c6d34ea10fed33e78ab0ed35c270e5422f961b7"), looks := true }, kinds := [], alts := [], laidByText := true, laidKinds := [.data, .data, .data, .data, .sentinel, .sentinel, .pinned], laidTests := true, laidLooks := .later }
def FnExactReadRotorCardSaid : Prop := Claim7.holds Tryz.pinned (.plain (OpenSpec.ofChange fnExactReadRotorSpec)) fnExactReadRotorCard

/-- THE SECOND FORM's CARD OF 'laws.FnExactReadDrive'. -/
def fnExactReadDriveUptoCard : Claim7 := { stood := { row := fnExactReadDriveUptoRow, standIns := [], harness := (true, "6325c2f80e0bda53d3d4b2441c6d34ea10fed33e78ab0ed35c270e5422f961b7"), looks := true }, kinds := [], alts := [], laidByText := true, laidKinds := [.data, .data, .data, .data, .sentinel, .sentinel, .pinned], laidTests := true, laidLooks := .later }
def FnExactReadDriveUptoCardSaid : Prop := Claim7.holds Tryz.pinned (.plain (OpenSpec.upto fnExactReadDriveSpec)) fnExactReadDriveUptoCard

/-- THE SECOND FORM's CARD OF 'laws.FnExactReadRotor'. -/
def fnExactReadRotorUptoCard : Claim7 := { stood := { row := fnExactReadRotorUptoRow, standIns := [], harness := (true, "6325c2f80e0bda53d3d4b2441c6d34ea10fed33e78ab0ed35c270e5422f961b7"), looks := true }, kinds := [], alts := [], laidByText := true, laidKinds := [.data, .data, .data, .data, .sentinel, .sentinel, .pinned], laidTests := true, laidLooks := .later }
def FnExactReadRotorUptoCardSaid : Prop := Claim7.holds Tryz.pinned (.plain (OpenSpec.upto fnExactReadRotorSpec)) fnExactReadRotorUptoCard
end Rows
end Go.Proofs.YtpkkgfjjnggijaaGreatDoor
