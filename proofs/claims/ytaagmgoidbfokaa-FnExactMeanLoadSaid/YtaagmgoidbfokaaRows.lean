/-
  No cell of these rows narrows 'for every input' (looked for: loops, veiled, ifaces, maps, wideKeys, modest, calm, conditions, laid).
  DERIVED. THE GIVEN ROWS OF THIS SEAT. 6 by the template 'for every input the law returns true; each argument reads behind the call as it read before'; 0 by the template 'total and deterministic' (their statements: YtaagmgoidbfokaaTotals.lean).
  GIVEN WITH THE SEED: the statements are not yours to turn. If you find one false, say at which input.
  Laid BY PROGRAM, IN A SANDBOX (cutbox-rows.mjs): the forced cells as the released guide's own fill.sh prints them over the translation 12a3be3900782cc2… (all of the seat's roots in one cut). By AI agents, Wed Nov 11 2026. No macro, syntax, notation, axiom, sorry.
-/
import Derived.Test.YtaagmgoidbfokaaChecked
import GoSem.Claim
import GoSem.ClaimJoined
import GoSem.ClaimMapViews
import Derived.JoinedTies
import Derived.KernelRfl
namespace Go.Proofs.Ytaagmgoidbfokaa
/- THE CELL 'sum', in the pinned program and in every row, IS THE sha256 OF THE DUMP (.gsa) THAT YtaagmgoidbfokaaProg.lean LOADS. Nothing in Lean hashes anything: it is a label: what it is worth is what the hold of that sum in a sandbox is worth. -/
noncomputable def Try.pinned : Pinned := { name := "ytaagmgoidbfokaa", sum := "12a3be3900782cc2d1f06638383b218b2a6a7a87c36823dd762e3ff1f34ea2ed", checked := Try.checked }
namespace Rows
def none {H : Type} : Left H := { results := [], args := [] }

/-- 'laws.FnExactValidTower': WHATEVER THE INPUT: true; the input reads as it did. -/
def fnExactValidTowerSpec : ChangeSpec := { name := "fnExactValidTower", fn := fun _ => fun
  | [d] => { results := [.lit (.bool true)], args := [d] }
  | _ => none }
def fnExactValidTowerRow : OpenClaim := { program := "ytaagmgoidbfokaa", sum := "12a3be3900782cc2d1f06638383b218b2a6a7a87c36823dd762e3ff1f34ea2ed", func := "loop.example/g01256/laws.FnExactValidTower", spec := "fnExactValidTower", unfollowed := true, recurses := true, apart := false }
def FnExactValidTowerSaid : Prop := fnExactValidTowerRow.holds Try.pinned (OpenSpec.ofChange fnExactValidTowerSpec)

/-- ITS FALSE NEIGHBOUR: 'it returns false'. Refute it at one input. -/
def fnExactValidTowerWrong : ChangeSpec := { name := "fnExactValidTower", fn := fun _ => fun
  | [d] => { results := [.lit (.bool false)], args := [d] }
  | _ => none }
def FnExactValidTowerWrongFalsely : Prop := fnExactValidTowerRow.holds Try.pinned (OpenSpec.ofChange fnExactValidTowerWrong)

/-- 'laws.FnExactEnergyOfTower': WHATEVER THE INPUT: true; the input reads as it did. -/
def fnExactEnergyOfTowerSpec : ChangeSpec := { name := "fnExactEnergyOfTower", fn := fun _ => fun
  | [d1, d2, d3] => { results := [.lit (.bool true)], args := [d1, d2, d3] }
  | _ => none }
def fnExactEnergyOfTowerRow : OpenClaim := { program := "ytaagmgoidbfokaa", sum := "12a3be3900782cc2d1f06638383b218b2a6a7a87c36823dd762e3ff1f34ea2ed", func := "loop.example/g01256/laws.FnExactEnergyOfTower", spec := "fnExactEnergyOfTower", unfollowed := true, recurses := true, apart := false }
def FnExactEnergyOfTowerSaid : Prop := fnExactEnergyOfTowerRow.holds Try.pinned (OpenSpec.ofChange fnExactEnergyOfTowerSpec)

/-- ITS FALSE NEIGHBOUR: 'it returns false'. Refute it at one input. -/
def fnExactEnergyOfTowerWrong : ChangeSpec := { name := "fnExactEnergyOfTower", fn := fun _ => fun
  | [d1, d2, d3] => { results := [.lit (.bool false)], args := [d1, d2, d3] }
  | _ => none }
def FnExactEnergyOfTowerWrongFalsely : Prop := fnExactEnergyOfTowerRow.holds Try.pinned (OpenSpec.ofChange fnExactEnergyOfTowerWrong)

/-- 'laws.FnExactStepTower': WHATEVER THE INPUT: true; the input reads as it did. -/
def fnExactStepTowerSpec : ChangeSpec := { name := "fnExactStepTower", fn := fun _ => fun
  | [d1, d2, d3, d4, d5] => { results := [.lit (.bool true)], args := [d1, d2, d3, d4, d5] }
  | _ => none }
def fnExactStepTowerRow : OpenClaim := { program := "ytaagmgoidbfokaa", sum := "12a3be3900782cc2d1f06638383b218b2a6a7a87c36823dd762e3ff1f34ea2ed", func := "loop.example/g01256/laws.FnExactStepTower", spec := "fnExactStepTower", unfollowed := true, recurses := true, apart := false }
def FnExactStepTowerSaid : Prop := fnExactStepTowerRow.holds Try.pinned (OpenSpec.ofChange fnExactStepTowerSpec)

/-- ITS FALSE NEIGHBOUR: 'it returns false'. Refute it at one input. -/
def fnExactStepTowerWrong : ChangeSpec := { name := "fnExactStepTower", fn := fun _ => fun
  | [d1, d2, d3, d4, d5] => { results := [.lit (.bool false)], args := [d1, d2, d3, d4, d5] }
  | _ => none }
def FnExactStepTowerWrongFalsely : Prop := fnExactStepTowerRow.holds Try.pinned (OpenSpec.ofChange fnExactStepTowerWrong)

/-- 'laws.FnExactExceedOf': WHATEVER THE INPUT: true; the input reads as it did. -/
def fnExactExceedOfSpec : ChangeSpec := { name := "fnExactExceedOf", fn := fun _ => fun
  | [d1, d2] => { results := [.lit (.bool true)], args := [d1, d2] }
  | _ => none }
def fnExactExceedOfRow : OpenClaim := { program := "ytaagmgoidbfokaa", sum := "12a3be3900782cc2d1f06638383b218b2a6a7a87c36823dd762e3ff1f34ea2ed", func := "loop.example/g01256/laws.FnExactExceedOf", spec := "fnExactExceedOf", unfollowed := true, recurses := true, apart := false }
def FnExactExceedOfSaid : Prop := fnExactExceedOfRow.holds Try.pinned (OpenSpec.ofChange fnExactExceedOfSpec)

/-- ITS FALSE NEIGHBOUR: 'it returns false'. Refute it at one input. -/
def fnExactExceedOfWrong : ChangeSpec := { name := "fnExactExceedOf", fn := fun _ => fun
  | [d1, d2] => { results := [.lit (.bool false)], args := [d1, d2] }
  | _ => none }
def FnExactExceedOfWrongFalsely : Prop := fnExactExceedOfRow.holds Try.pinned (OpenSpec.ofChange fnExactExceedOfWrong)

/-- 'laws.FnExactAreCycles': WHATEVER THE INPUT: true; the input reads as it did. -/
def fnExactAreCyclesSpec : ChangeSpec := { name := "fnExactAreCycles", fn := fun _ => fun
  | [d] => { results := [.lit (.bool true)], args := [d] }
  | _ => none }
def fnExactAreCyclesRow : OpenClaim := { program := "ytaagmgoidbfokaa", sum := "12a3be3900782cc2d1f06638383b218b2a6a7a87c36823dd762e3ff1f34ea2ed", func := "loop.example/g01256/laws.FnExactAreCycles", spec := "fnExactAreCycles", unfollowed := true, recurses := true, apart := false }
def FnExactAreCyclesSaid : Prop := fnExactAreCyclesRow.holds Try.pinned (OpenSpec.ofChange fnExactAreCyclesSpec)

/-- ITS FALSE NEIGHBOUR: 'it returns false'. Refute it at one input. -/
def fnExactAreCyclesWrong : ChangeSpec := { name := "fnExactAreCycles", fn := fun _ => fun
  | [d] => { results := [.lit (.bool false)], args := [d] }
  | _ => none }
def FnExactAreCyclesWrongFalsely : Prop := fnExactAreCyclesRow.holds Try.pinned (OpenSpec.ofChange fnExactAreCyclesWrong)

/-- 'laws.FnExactMeanLoad': WHATEVER THE INPUT: true; the input reads as it did. -/
def fnExactMeanLoadSpec : ChangeSpec := { name := "fnExactMeanLoad", fn := fun _ => fun
  | [d] => { results := [.lit (.bool true)], args := [d] }
  | _ => none }
def fnExactMeanLoadRow : OpenClaim := { program := "ytaagmgoidbfokaa", sum := "12a3be3900782cc2d1f06638383b218b2a6a7a87c36823dd762e3ff1f34ea2ed", func := "loop.example/g01256/laws.FnExactMeanLoad", spec := "fnExactMeanLoad", unfollowed := true, recurses := true, apart := false }
def FnExactMeanLoadSaid : Prop := fnExactMeanLoadRow.holds Try.pinned (OpenSpec.ofChange fnExactMeanLoadSpec)

/-- ITS FALSE NEIGHBOUR: 'it returns false'. Refute it at one input. -/
def fnExactMeanLoadWrong : ChangeSpec := { name := "fnExactMeanLoad", fn := fun _ => fun
  | [d] => { results := [.lit (.bool false)], args := [d] }
  | _ => none }
def FnExactMeanLoadWrongFalsely : Prop := fnExactMeanLoadRow.holds Try.pinned (OpenSpec.ofChange fnExactMeanLoadWrong)

/- THE SECOND FORM. 'bulk': how many values and letters a reading holds, each counted each time it is reached (what is shared counts as often as it is met; a slice's spare places count too). A statement '..UptoSaid' is the law's where the arguments, and the package variables that the reading takes, are together of bulk at most 1048576: NARROWER than '..Said'. Prove '..Said' where nothing that the law and all that it calls make is longer than what came in: it says more and counts as full. Else prove '..UptoSaid'. A law counts once. -/
mutual
def uptoBulk {H : Type} : DataW H → Nat
  | .lit (.string bytes) => bytes.length + 1
  | .lit _ => 1
  | .nil => 1
  | .ptr d => uptoBulk d + 1
  | .slice elems spare => uptoBulkAll elems + uptoBulkAll spare + 1
  | .agg parts => uptoBulkAll parts + 1
  | .iface _ d => uptoBulk d + 1
  | .map entries => uptoBulkEntries entries + 1
  | .held _ => 1
def uptoBulkAll {H : Type} : List (DataW H) → Nat
  | [] => 0
  | d :: r => uptoBulk d + uptoBulkAll r
def uptoBulkEntries {H : Type} : List (Lit × DataW H) → Nat
  | [] => 0
  | x :: r => uptoBulkEntry x + uptoBulkEntries r
def uptoBulkEntry {H : Type} : Lit × DataW H → Nat
  | (.string bytes, d) => bytes.length + uptoBulk d + 1
  | (_, d) => uptoBulk d + 1
 end
def uptoSmall : (H : Type) → List (DataW H) → Bool := fun _ ds => decide (uptoBulkAll ds ≤ 1048576)
def OpenSpec.upto (s : _root_.Go.ChangeSpec) : _root_.Go.OpenSpec := { _root_.Go.OpenSpec.ofChange s with cond := some uptoSmall }

/-- 'laws.FnExactValidTower', WHERE WHAT IT READS IS OF BULK AT MOST 1048576: true; the input reads as it did. -/
def fnExactValidTowerUptoRow : OpenClaim := { program := "ytaagmgoidbfokaa", sum := "12a3be3900782cc2d1f06638383b218b2a6a7a87c36823dd762e3ff1f34ea2ed", func := "loop.example/g01256/laws.FnExactValidTower", spec := "fnExactValidTower", unfollowed := true, recurses := true, apart := false, narrowed := true }
def FnExactValidTowerUptoSaid : Prop := fnExactValidTowerUptoRow.holds Try.pinned (OpenSpec.upto fnExactValidTowerSpec)

/-- 'laws.FnExactEnergyOfTower', WHERE WHAT IT READS IS OF BULK AT MOST 1048576: true; the input reads as it did. -/
def fnExactEnergyOfTowerUptoRow : OpenClaim := { program := "ytaagmgoidbfokaa", sum := "12a3be3900782cc2d1f06638383b218b2a6a7a87c36823dd762e3ff1f34ea2ed", func := "loop.example/g01256/laws.FnExactEnergyOfTower", spec := "fnExactEnergyOfTower", unfollowed := true, recurses := true, apart := false, narrowed := true }
def FnExactEnergyOfTowerUptoSaid : Prop := fnExactEnergyOfTowerUptoRow.holds Try.pinned (OpenSpec.upto fnExactEnergyOfTowerSpec)

/-- 'laws.FnExactStepTower', WHERE WHAT IT READS IS OF BULK AT MOST 1048576: true; the input reads as it did. -/
def fnExactStepTowerUptoRow : OpenClaim := { program := "ytaagmgoidbfokaa", sum := "12a3be3900782cc2d1f06638383b218b2a6a7a87c36823dd762e3ff1f34ea2ed", func := "loop.example/g01256/laws.FnExactStepTower", spec := "fnExactStepTower", unfollowed := true, recurses := true, apart := false, narrowed := true }
def FnExactStepTowerUptoSaid : Prop := fnExactStepTowerUptoRow.holds Try.pinned (OpenSpec.upto fnExactStepTowerSpec)

/-- 'laws.FnExactExceedOf', WHERE WHAT IT READS IS OF BULK AT MOST 1048576: true; the input reads as it did. -/
def fnExactExceedOfUptoRow : OpenClaim := { program := "ytaagmgoidbfokaa", sum := "12a3be3900782cc2d1f06638383b218b2a6a7a87c36823dd762e3ff1f34ea2ed", func := "loop.example/g01256/laws.FnExactExceedOf", spec := "fnExactExceedOf", unfollowed := true, recurses := true, apart := false, narrowed := true }
def FnExactExceedOfUptoSaid : Prop := fnExactExceedOfUptoRow.holds Try.pinned (OpenSpec.upto fnExactExceedOfSpec)

/-- 'laws.FnExactAreCycles', WHERE WHAT IT READS IS OF BULK AT MOST 1048576: true; the input reads as it did. -/
def fnExactAreCyclesUptoRow : OpenClaim := { program := "ytaagmgoidbfokaa", sum := "12a3be3900782cc2d1f06638383b218b2a6a7a87c36823dd762e3ff1f34ea2ed", func := "loop.example/g01256/laws.FnExactAreCycles", spec := "fnExactAreCycles", unfollowed := true, recurses := true, apart := false, narrowed := true }
def FnExactAreCyclesUptoSaid : Prop := fnExactAreCyclesUptoRow.holds Try.pinned (OpenSpec.upto fnExactAreCyclesSpec)

/-- 'laws.FnExactMeanLoad', WHERE WHAT IT READS IS OF BULK AT MOST 1048576: true; the input reads as it did. -/
def fnExactMeanLoadUptoRow : OpenClaim := { program := "ytaagmgoidbfokaa", sum := "12a3be3900782cc2d1f06638383b218b2a6a7a87c36823dd762e3ff1f34ea2ed", func := "loop.example/g01256/laws.FnExactMeanLoad", spec := "fnExactMeanLoad", unfollowed := true, recurses := true, apart := false, narrowed := true }
def FnExactMeanLoadUptoSaid : Prop := fnExactMeanLoadUptoRow.holds Try.pinned (OpenSpec.upto fnExactMeanLoadSpec)

end Rows
end Go.Proofs.Ytaagmgoidbfokaa
