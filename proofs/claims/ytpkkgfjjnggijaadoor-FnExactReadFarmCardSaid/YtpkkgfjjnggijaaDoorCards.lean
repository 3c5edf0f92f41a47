/-
  DERIVED. GIVEN WITH THE SEED: THE CARDS: each row of YtpkkgfjjnggijaaDoorRows.lean that lists a variable, with what it lists TIED to the program's text (the seventh form; the later family's looks); each row that meets fmt, with fmt's text TOLD by the authors' own Lean function (tested against real Go, not proved from fmt's source: count such statements apart). THE CARD IS WHAT COUNTS. Prove the row's statement (the work); the ties are given (YtpkkgfjjnggijaaDoorTie.lean); close each card by the builder's one call (the guide's Derived/Test/ToyasCard.lean, 'card_holds'). Laid BY PROGRAM, IN A SANDBOX (cutbox-door.mjs). By AI agents, Wed Nov 11 2026. No macro, syntax, notation, axiom, sorry.
-/
import Derived.Test.YtpkkgfjjnggijaaDoorRows
import GoSem.ClaimSeven
namespace Go.Proofs.YtpkkgfjjnggijaaDoor
namespace Rows

/-- THE TIED CARD OF 'laws.FnExactReadAir'. -/
def fnExactReadAirCard : Claim7 := { stood := { row := fnExactReadAirRow, standIns := [], harness := (true, "37ea0072669de89594397a86573af26d65d52f5f72f38dc3100d6f840d593b33"), looks := true }, kinds := [], alts := [], laidByText := true, laidKinds := [.data, .data, .data, .data, .sentinel, .sentinel, .pinned], laidTests := true, laidLooks := .later }
def FnExactReadAirCardSaid : Prop := Claim7.holds Tryd.pinned (.plain (OpenSpec.ofChange fnExactReadAirSpec)) fnExactReadAirCard

/-- THE TIED CARD OF 'laws.FnExactReadProfile'. -/
def fnExactReadProfileCard : Claim7 := { stood := { row := fnExactReadProfileRow, standIns := [], harness := (true, "37ea0072669de89594397a86573af26d65d52f5f72f38dc3100d6f840d593b33"), looks := true }, kinds := [], alts := [], laidByText := true, laidKinds := [.data, .data, .data, .data, .sentinel, .sentinel, .pinned], laidTests := true, laidLooks := .later }
def FnExactReadProfileCardSaid : Prop := Claim7.holds Tryd.pinned (.plain (OpenSpec.ofChange fnExactReadProfileSpec)) fnExactReadProfileCard

/-- THE TIED CARD OF 'laws.FnExactReadFarm'. -/
def fnExactReadFarmCard : Claim7 := { stood := { row := fnExactReadFarmRow, standIns := [], harness := (true, "37ea0072669de89594397a86573af26d65d52f5f72f38dc3100d6f840d593b33"), looks := true }, kinds := [], alts := [], laidByText := true, laidKinds := [.data, .data, .data, .data, .sentinel, .sentinel, .pinned], laidTests := true, laidLooks := .later }
def FnExactReadFarmCardSaid : Prop := Claim7.holds Tryd.pinned (.plain (OpenSpec.ofChange fnExactReadFarmSpec)) fnExactReadFarmCard

/-- THE SECOND FORM's CARD OF 'laws.FnExactReadAir'. -/
def fnExactReadAirUptoCard : Claim7 := { stood := { row := fnExactReadAirUptoRow, standIns := [], harness := (true, "37ea0072669de89594397a86573af26d65d52f5f72f38dc3100d6f840d593b33"), looks := true }, kinds := [], alts := [], laidByText := true, laidKinds := [.data, .data, .data, .data, .sentinel, .sentinel, .pinned], laidTests := true, laidLooks := .later }
def FnExactReadAirUptoCardSaid : Prop := Claim7.holds Tryd.pinned (.plain (OpenSpec.upto fnExactReadAirSpec)) fnExactReadAirUptoCard

/-- THE SECOND FORM's CARD OF 'laws.FnExactReadProfile'. -/
def fnExactReadProfileUptoCard : Claim7 := { stood := { row := fnExactReadProfileUptoRow, standIns := [], harness := (true, "37ea0072669de89594397a86573af26d65d52f5f72f38dc3100d6f840d593b33"), looks := true }, kinds := [], alts := [], laidByText := true, laidKinds := [.data, .data, .data, .data, .sentinel, .sentinel, .pinned], laidTests := true, laidLooks := .later }
def FnExactReadProfileUptoCardSaid : Prop := Claim7.holds Tryd.pinned (.plain (OpenSpec.upto fnExactReadProfileSpec)) fnExactReadProfileUptoCard

/-- THE SECOND FORM's CARD OF 'laws.FnExactReadFarm'. -/
def fnExactReadFarmUptoCard : Claim7 := { stood := { row := fnExactReadFarmUptoRow, standIns := [], harness := (true, "37ea0072669de89594397a86573af26d65d52f5f72f38dc3100d6f840d593b33"), looks := true }, kinds := [], alts := [], laidByText := true, laidKinds := [.data, .data, .data, .data, .sentinel, .sentinel, .pinned], laidTests := true, laidLooks := .later }
def FnExactReadFarmUptoCardSaid : Prop := Claim7.holds Tryd.pinned (.plain (OpenSpec.upto fnExactReadFarmSpec)) fnExactReadFarmUptoCard
end Rows
end Go.Proofs.YtpkkgfjjnggijaaDoor
