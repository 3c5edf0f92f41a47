/-
  DERIVED. GIVEN WITH THE SEED: THE CARDS: each row of YtimckchoekkkfaaDoorRows.lean that lists a variable, with what it lists TIED to the program's text (the seventh form; the later family's looks); each row that meets fmt, with fmt's text TOLD by the authors' own Lean function (tested against real Go, not proved from fmt's source: count such statements apart). THE CARD IS WHAT COUNTS. Prove the row's statement (the work); the ties are given (YtimckchoekkkfaaDoorTie.lean); close each card by the builder's one call (the guide's Derived/Test/ToyasCard.lean, 'card_holds'). Laid BY PROGRAM, IN A SANDBOX (cutbox-door.mjs). By AI agents, Wed Nov 11 2026. No macro, syntax, notation, axiom, sorry.
-/
import Derived.Test.YtimckchoekkkfaaDoorRows
import GoSem.ClaimSeven
namespace Go.Proofs.YtimckchoekkkfaaDoor
namespace Rows

/-- THE TIED CARD OF 'laws.FnExactAirText'. -/
def fnExactAirTextCard : Claim7 := { stood := { row := fnExactAirTextRow, standIns := [], harness := (true, "fd429f6ce4b044fae604fccd18e2574ab4e2eca11bd87b56db19a5ef043dfab6"), looks := false }, kinds := [], alts := [], laidByText := true, laidKinds := [.data, .data, .data], laidTests := true, laidLooks := .later }
def FnExactAirTextCardSaid : Prop := Claim7.holds Tryd.pinned (.plain (OpenSpec.ofChange fnExactAirTextSpec)) fnExactAirTextCard

/-- THE TIED CARD OF 'laws.FnExactDriveText'. -/
def fnExactDriveTextCard : Claim7 := { stood := { row := fnExactDriveTextRow, standIns := [], harness := (true, "fd429f6ce4b044fae604fccd18e2574ab4e2eca11bd87b56db19a5ef043dfab6"), looks := false }, kinds := [], alts := [], laidByText := true, laidKinds := [.data, .data, .data], laidTests := true, laidLooks := .later }
def FnExactDriveTextCardSaid : Prop := Claim7.holds Tryd.pinned (.plain (OpenSpec.ofChange fnExactDriveTextSpec)) fnExactDriveTextCard

/-- THE TIED CARD OF 'laws.FnExactProfileText'. -/
def fnExactProfileTextCard : Claim7 := { stood := { row := fnExactProfileTextRow, standIns := [], harness := (true, "fd429f6ce4b044fae604fccd18e2574ab4e2eca11bd87b56db19a5ef043dfab6"), looks := false }, kinds := [], alts := [], laidByText := true, laidKinds := [.data, .data, .data], laidTests := true, laidLooks := .later }
def FnExactProfileTextCardSaid : Prop := Claim7.holds Tryd.pinned (.plain (OpenSpec.ofChange fnExactProfileTextSpec)) fnExactProfileTextCard

/-- THE TIED CARD OF 'laws.FnExactFarmText'. -/
def fnExactFarmTextCard : Claim7 := { stood := { row := fnExactFarmTextRow, standIns := [], harness := (true, "fd429f6ce4b044fae604fccd18e2574ab4e2eca11bd87b56db19a5ef043dfab6"), looks := false }, kinds := [], alts := [], laidByText := true, laidKinds := [.data, .data, .data], laidTests := true, laidLooks := .later }
def FnExactFarmTextCardSaid : Prop := Claim7.holds Tryd.pinned (.plain (OpenSpec.ofChange fnExactFarmTextSpec)) fnExactFarmTextCard

/-- THE TIED CARD OF 'laws.FnExactRotorText'. -/
def fnExactRotorTextCard : Claim7 := { stood := { row := fnExactRotorTextRow, standIns := [], harness := (true, "fd429f6ce4b044fae604fccd18e2574ab4e2eca11bd87b56db19a5ef043dfab6"), looks := false }, kinds := [], alts := [], laidByText := true, laidKinds := [.data, .data, .data], laidTests := true, laidLooks := .later }
def FnExactRotorTextCardSaid : Prop := Claim7.holds Tryd.pinned (.plain (OpenSpec.ofChange fnExactRotorTextSpec)) fnExactRotorTextCard

/-- THE SECOND FORM's CARD OF 'laws.FnExactAirText'. -/
def fnExactAirTextUptoCard : Claim7 := { stood := { row := fnExactAirTextUptoRow, standIns := [], harness := (true, "fd429f6ce4b044fae604fccd18e2574ab4e2eca11bd87b56db19a5ef043dfab6"), looks := false }, kinds := [], alts := [], laidByText := true, laidKinds := [.data, .data, .data], laidTests := true, laidLooks := .later }
def FnExactAirTextUptoCardSaid : Prop := Claim7.holds Tryd.pinned (.plain (OpenSpec.upto fnExactAirTextSpec)) fnExactAirTextUptoCard

/-- THE SECOND FORM's CARD OF 'laws.FnExactDriveText'. -/
def fnExactDriveTextUptoCard : Claim7 := { stood := { row := fnExactDriveTextUptoRow, standIns := [], harness := (true, "fd429f6ce4b044fae604fccd18e2574ab4e2eca11bd87b56db19a5ef043dfab6"), looks := false }, kinds := [], alts := [], laidByText := true, laidKinds := [.data, .data, .data], laidTests := true, laidLooks := .later }
def FnExactDriveTextUptoCardSaid : Prop := Claim7.holds Tryd.pinned (.plain (OpenSpec.upto fnExactDriveTextSpec)) fnExactDriveTextUptoCard

/-- THE SECOND FORM's CARD OF 'laws.FnExactProfileText'. -/
def fnExactProfileTextUptoCard : Claim7 := { stood := { row := fnExactProfileTextUptoRow, standIns := [], harness := (true, "fd429f6ce4b044fae604fccd18e2574ab4e2eca11bd87b56db19a5ef043dfab6"), looks := false }, kinds := [], alts := [], laidByText := true, laidKinds := [.data, .data, .data], laidTests := true, laidLooks := .later }
def FnExactProfileTextUptoCardSaid : Prop := Claim7.holds Tryd.pinned (.plain (OpenSpec.upto fnExactProfileTextSpec)) fnExactProfileTextUptoCard

/-- THE SECOND FORM's CARD OF 'laws.FnExactFarmText'. -/
def fnExactFarmTextUptoCard : Claim7 := { stood := { row := fnExactFarmTextUptoRow, standIns := [], harness := (true, "fd429f6ce4b044fae604fccd18e2574ab4e2eca11bd87b56db19a5ef043dfab6"), looks := false }, kinds := [], alts := [], laidByText := true, laidKinds := [.data, .data, .data], laidTests := true, laidLooks := .later }
def FnExactFarmTextUptoCardSaid : Prop := Claim7.holds Tryd.pinned (.plain (OpenSpec.upto fnExactFarmTextSpec)) fnExactFarmTextUptoCard

/-- THE SECOND FORM's CARD OF 'laws.FnExactRotorText'. -/
def fnExactRotorTextUptoCard : Claim7 := { stood := { row := fnExactRotorTextUptoRow, standIns := [], harness := (true, "fd429f6ce4b044fae604fccd18e2574ab4e2eca11bd87b56db19a5ef043dfab6"), looks := false }, kinds := [], alts := [], laidByText := true, laidKinds := [.data, .data, .data], laidTests := true, laidLooks := .later }
def FnExactRotorTextUptoCardSaid : Prop := Claim7.holds Tryd.pinned (.plain (OpenSpec.upto fnExactRotorTextSpec)) fnExactRotorTextUptoCard
end Rows
end Go.Proofs.YtimckchoekkkfaaDoor
