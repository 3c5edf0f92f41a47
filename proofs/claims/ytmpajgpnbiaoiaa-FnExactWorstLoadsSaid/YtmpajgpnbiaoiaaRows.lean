/-
  No cell of these rows narrows 'for every input' (looked for: loops, veiled, ifaces, maps, wideKeys, modest, calm, conditions, laid).
  DERIVED. THE GIVEN ROWS OF THIS SEAT. 6 by the template 'for every input the law returns true; each argument reads behind the call as it read before'; 0 by the template 'total and deterministic' (their statements: YtmpajgpnbiaoiaaTotals.lean).
  GIVEN WITH THE SEED: the statements are not yours to turn. If you find one false, say at which input.
  Laid BY PROGRAM, IN A SANDBOX (cutbox-rows.mjs): the forced cells as the released guide's own fill.sh prints them over the translation 6fe1973314fa85ea… (all of the seat's roots in one cut). By AI agents, Wed Nov 11 2026. No macro, syntax, notation, axiom, sorry.
-/
import Derived.Test.YtmpajgpnbiaoiaaChecked
import GoSem.Claim
import GoSem.ClaimJoined
import GoSem.ClaimMapViews
import Derived.JoinedTies
import Derived.KernelRfl
namespace Go.Proofs.Ytmpajgpnbiaoiaa
/- THE CELL 'sum', in the pinned program and in every row, IS THE sha256 OF THE DUMP (.gsa) THAT YtmpajgpnbiaoiaaProg.lean LOADS. Nothing in Lean hashes anything: it is a label: what it is worth is what the hold of that sum in a sandbox is worth. -/
noncomputable def Try.pinned : Pinned := { name := "ytmpajgpnbiaoiaa", sum := "6fe1973314fa85ea6167722cb981b8fd15344fe3f84fcc49d87e00f29316a39f", checked := Try.checked }
namespace Rows
def none {H : Type} : Left H := { results := [], args := [] }

/-- 'laws.FnExactTowerRate': WHATEVER THE INPUT: true; the input reads as it did. -/
def fnExactTowerRateSpec : ChangeSpec := { name := "fnExactTowerRate", fn := fun _ => fun
  | [d] => { results := [.lit (.bool true)], args := [d] }
  | _ => none }
def fnExactTowerRateRow : OpenClaim := { program := "ytmpajgpnbiaoiaa", sum := "6fe1973314fa85ea6167722cb981b8fd15344fe3f84fcc49d87e00f29316a39f", func := "loop.example/g01256/laws.FnExactTowerRate", spec := "fnExactTowerRate", inPlace := ["math.sqrt"], unfollowed := true, recurses := true, apart := false }
def FnExactTowerRateSaid : Prop := fnExactTowerRateRow.holds Try.pinned (OpenSpec.ofChange fnExactTowerRateSpec)

/-- ITS FALSE NEIGHBOUR: 'it returns false'. Refute it at one input. -/
def fnExactTowerRateWrong : ChangeSpec := { name := "fnExactTowerRate", fn := fun _ => fun
  | [d] => { results := [.lit (.bool false)], args := [d] }
  | _ => none }
def FnExactTowerRateWrongFalsely : Prop := fnExactTowerRateRow.holds Try.pinned (OpenSpec.ofChange fnExactTowerRateWrong)

/-- 'laws.FnExactSpreadOfLoads': WHATEVER THE INPUT: true; the input reads as it did. -/
def fnExactSpreadOfLoadsSpec : ChangeSpec := { name := "fnExactSpreadOfLoads", fn := fun _ => fun
  | [d] => { results := [.lit (.bool true)], args := [d] }
  | _ => none }
def fnExactSpreadOfLoadsRow : OpenClaim := { program := "ytmpajgpnbiaoiaa", sum := "6fe1973314fa85ea6167722cb981b8fd15344fe3f84fcc49d87e00f29316a39f", func := "loop.example/g01256/laws.FnExactSpreadOfLoads", spec := "fnExactSpreadOfLoads", inPlace := ["math.sqrt"], unfollowed := true, recurses := true, apart := false }
def FnExactSpreadOfLoadsSaid : Prop := fnExactSpreadOfLoadsRow.holds Try.pinned (OpenSpec.ofChange fnExactSpreadOfLoadsSpec)

/-- ITS FALSE NEIGHBOUR: 'it returns false'. Refute it at one input. -/
def fnExactSpreadOfLoadsWrong : ChangeSpec := { name := "fnExactSpreadOfLoads", fn := fun _ => fun
  | [d] => { results := [.lit (.bool false)], args := [d] }
  | _ => none }
def FnExactSpreadOfLoadsWrongFalsely : Prop := fnExactSpreadOfLoadsRow.holds Try.pinned (OpenSpec.ofChange fnExactSpreadOfLoadsWrong)

/-- 'laws.FnExactWorstLoads': WHATEVER THE INPUT: true; the input reads as it did. -/
def fnExactWorstLoadsSpec : ChangeSpec := { name := "fnExactWorstLoads", fn := fun _ => fun
  | [d] => { results := [.lit (.bool true)], args := [d] }
  | _ => none }
def fnExactWorstLoadsRow : OpenClaim := { program := "ytmpajgpnbiaoiaa", sum := "6fe1973314fa85ea6167722cb981b8fd15344fe3f84fcc49d87e00f29316a39f", func := "loop.example/g01256/laws.FnExactWorstLoads", spec := "fnExactWorstLoads", unfollowed := true, recurses := true, apart := false }
def FnExactWorstLoadsSaid : Prop := fnExactWorstLoadsRow.holds Try.pinned (OpenSpec.ofChange fnExactWorstLoadsSpec)

/-- ITS FALSE NEIGHBOUR: 'it returns false'. Refute it at one input. -/
def fnExactWorstLoadsWrong : ChangeSpec := { name := "fnExactWorstLoads", fn := fun _ => fun
  | [d] => { results := [.lit (.bool false)], args := [d] }
  | _ => none }
def FnExactWorstLoadsWrongFalsely : Prop := fnExactWorstLoadsRow.holds Try.pinned (OpenSpec.ofChange fnExactWorstLoadsWrong)

/-- 'laws.FnExactCyclesOf': WHATEVER THE INPUT: true; the input reads as it did. -/
def fnExactCyclesOfSpec : ChangeSpec := { name := "fnExactCyclesOf", fn := fun _ => fun
  | [d] => { results := [.lit (.bool true)], args := [d] }
  | _ => none }
def fnExactCyclesOfRow : OpenClaim := { program := "ytmpajgpnbiaoiaa", sum := "6fe1973314fa85ea6167722cb981b8fd15344fe3f84fcc49d87e00f29316a39f", func := "loop.example/g01256/laws.FnExactCyclesOf", spec := "fnExactCyclesOf", unfollowed := true, recurses := true, apart := false }
def FnExactCyclesOfSaid : Prop := fnExactCyclesOfRow.holds Try.pinned (OpenSpec.ofChange fnExactCyclesOfSpec)

/-- ITS FALSE NEIGHBOUR: 'it returns false'. Refute it at one input. -/
def fnExactCyclesOfWrong : ChangeSpec := { name := "fnExactCyclesOf", fn := fun _ => fun
  | [d] => { results := [.lit (.bool false)], args := [d] }
  | _ => none }
def FnExactCyclesOfWrongFalsely : Prop := fnExactCyclesOfRow.holds Try.pinned (OpenSpec.ofChange fnExactCyclesOfWrong)

/-- 'laws.FnExactEqualRange': WHATEVER THE INPUT: true; the input reads as it did. -/
def fnExactEqualRangeSpec : ChangeSpec := { name := "fnExactEqualRange", fn := fun _ => fun
  | [d1, d2, d3] => { results := [.lit (.bool true)], args := [d1, d2, d3] }
  | _ => none }
def fnExactEqualRangeRow : OpenClaim := { program := "ytmpajgpnbiaoiaa", sum := "6fe1973314fa85ea6167722cb981b8fd15344fe3f84fcc49d87e00f29316a39f", func := "loop.example/g01256/laws.FnExactEqualRange", spec := "fnExactEqualRange", inPlace := ["math.sqrt"], unfollowed := true, recurses := true, apart := false }
def FnExactEqualRangeSaid : Prop := fnExactEqualRangeRow.holds Try.pinned (OpenSpec.ofChange fnExactEqualRangeSpec)

/-- ITS FALSE NEIGHBOUR: 'it returns false'. Refute it at one input. -/
def fnExactEqualRangeWrong : ChangeSpec := { name := "fnExactEqualRange", fn := fun _ => fun
  | [d1, d2, d3] => { results := [.lit (.bool false)], args := [d1, d2, d3] }
  | _ => none }
def FnExactEqualRangeWrongFalsely : Prop := fnExactEqualRangeRow.holds Try.pinned (OpenSpec.ofChange fnExactEqualRangeWrong)

/-- 'laws.FnExactCountCycles': WHATEVER THE INPUT: true; the input reads as it did. -/
def fnExactCountCyclesSpec : ChangeSpec := { name := "fnExactCountCycles", fn := fun _ => fun
  | [d1, d2, d3] => { results := [.lit (.bool true)], args := [d1, d2, d3] }
  | _ => none }
def fnExactCountCyclesRow : OpenClaim := { program := "ytmpajgpnbiaoiaa", sum := "6fe1973314fa85ea6167722cb981b8fd15344fe3f84fcc49d87e00f29316a39f", func := "loop.example/g01256/laws.FnExactCountCycles", spec := "fnExactCountCycles", inPlace := ["math.archFloor", "math.Float64bits", "math.Float64frombits", "math.archTrunc"], unfollowed := true, recurses := true, apart := false }
def FnExactCountCyclesSaid : Prop := fnExactCountCyclesRow.holds Try.pinned (OpenSpec.ofChange fnExactCountCyclesSpec)

/-- ITS FALSE NEIGHBOUR: 'it returns false'. Refute it at one input. -/
def fnExactCountCyclesWrong : ChangeSpec := { name := "fnExactCountCycles", fn := fun _ => fun
  | [d1, d2, d3] => { results := [.lit (.bool false)], args := [d1, d2, d3] }
  | _ => none }
def FnExactCountCyclesWrongFalsely : Prop := fnExactCountCyclesRow.holds Try.pinned (OpenSpec.ofChange fnExactCountCyclesWrong)

/- THE SECOND FORM. 'bulk': how many values and letters a reading holds, each counted each time it is reached (what is shared counts as often as it is met; a slice's spare places count too). A statement '..UptoSaid' is the law's where the arguments, and the package variables that the reading takes, are together of bulk at most 1048576: NARROWER than '..Said'. Prove '..Said' where nothing that the law and all that it calls make is longer than what came in: it says more and counts as full. Else prove '..UptoSaid'. A law counts once. -/
mutual
def uptoBulk {H : Type} : DataW H → Nat
  | .lit (.string bytes) => bytes.length + 1
  | .lit _ => 1
  | .nil => 1
  | .ptr d => uptoBulk d + 1
  | .slice elems spare => uptoBulkAll elems + uptoBulkAll spare + 1
  | .agg parts => uptoBulkAll parts + 1
  | .iface _ d => uptoBulk d + 1
  | .map entries => uptoBulkEntries entries + 1
  | .held _ => 1
def uptoBulkAll {H : Type} : List (DataW H) → Nat
  | [] => 0
  | d :: r => uptoBulk d + uptoBulkAll r
def uptoBulkEntries {H : Type} : List (Lit × DataW H) → Nat
  | [] => 0
  | x :: r => uptoBulkEntry x + uptoBulkEntries r
def uptoBulkEntry {H : Type} : Lit × DataW H → Nat
  | (.string bytes, d) => bytes.length + uptoBulk d + 1
  | (_, d) => uptoBulk d + 1
 end
def uptoSmall : (H : Type) → List (DataW H) → Bool := fun _ ds => decide (uptoBulkAll ds ≤ 1048576)
def OpenSpec.upto (s : _root_.Go.ChangeSpec) : _root_.Go.OpenSpec := { _root_.Go.OpenSpec.ofChange s with cond := some uptoSmall }

/-- 'laws.FnExactTowerRate', WHERE WHAT IT READS IS OF BULK AT MOST 1048576: true; the input reads as it did. -/
def fnExactTowerRateUptoRow : OpenClaim := { program := "ytmpajgpnbiaoiaa", sum := "6fe1973314fa85ea6167722cb981b8fd15344fe3f84fcc49d87e00f29316a39f", func := "loop.example/g01256/laws.FnExactTowerRate", spec := "fnExactTowerRate", inPlace := ["math.sqrt"], unfollowed := true, recurses := true, apart := false, narrowed := true }
def FnExactTowerRateUptoSaid : Prop := fnExactTowerRateUptoRow.holds Try.pinned (OpenSpec.upto fnExactTowerRateSpec)

/-- 'laws.FnExactSpreadOfLoads', WHERE WHAT IT READS IS OF BULK AT MOST 1048576: true; the input reads as it did. -/
def fnExactSpreadOfLoadsUptoRow : OpenClaim := { program := "ytmpajgpnbiaoiaa", sum := "6fe1973314fa85ea6167722cb981b8fd15344fe3f84fcc49d87e00f29316a39f", func := "loop.example/g01256/laws.FnExactSpreadOfLoads", spec := "fnExactSpreadOfLoads", inPlace := ["math.sqrt"], unfollowed := true, recurses := true, apart := false, narrowed := true }
def FnExactSpreadOfLoadsUptoSaid : Prop := fnExactSpreadOfLoadsUptoRow.holds Try.pinned (OpenSpec.upto fnExactSpreadOfLoadsSpec)

/-- 'laws.FnExactWorstLoads', WHERE WHAT IT READS IS OF BULK AT MOST 1048576: true; the input reads as it did. -/
def fnExactWorstLoadsUptoRow : OpenClaim := { program := "ytmpajgpnbiaoiaa", sum := "6fe1973314fa85ea6167722cb981b8fd15344fe3f84fcc49d87e00f29316a39f", func := "loop.example/g01256/laws.FnExactWorstLoads", spec := "fnExactWorstLoads", unfollowed := true, recurses := true, apart := false, narrowed := true }
def FnExactWorstLoadsUptoSaid : Prop := fnExactWorstLoadsUptoRow.holds Try.pinned (OpenSpec.upto fnExactWorstLoadsSpec)

/-- 'laws.FnExactCyclesOf', WHERE WHAT IT READS IS OF BULK AT MOST 1048576: true; the input reads as it did. -/
def fnExactCyclesOfUptoRow : OpenClaim := { program := "ytmpajgpnbiaoiaa", sum := "6fe1973314fa85ea6167722cb981b8fd15344fe3f84fcc49d87e00f29316a39f", func := "loop.example/g01256/laws.FnExactCyclesOf", spec := "fnExactCyclesOf", unfollowed := true, recurses := true, apart := false, narrowed := true }
def FnExactCyclesOfUptoSaid : Prop := fnExactCyclesOfUptoRow.holds Try.pinned (OpenSpec.upto fnExactCyclesOfSpec)

/-- 'laws.FnExactEqualRange', WHERE WHAT IT READS IS OF BULK AT MOST 1048576: true; the input reads as it did. -/
def fnExactEqualRangeUptoRow : OpenClaim := { program := "ytmpajgpnbiaoiaa", sum := "6fe1973314fa85ea6167722cb981b8fd15344fe3f84fcc49d87e00f29316a39f", func := "loop.example/g01256/laws.FnExactEqualRange", spec := "fnExactEqualRange", inPlace := ["math.sqrt"], unfollowed := true, recurses := true, apart := false, narrowed := true }
def FnExactEqualRangeUptoSaid : Prop := fnExactEqualRangeUptoRow.holds Try.pinned (OpenSpec.upto fnExactEqualRangeSpec)

/-- 'laws.FnExactCountCycles', WHERE WHAT IT READS IS OF BULK AT MOST 1048576: true; the input reads as it did. -/
def fnExactCountCyclesUptoRow : OpenClaim := { program := "ytmpajgpnbiaoiaa", sum := "6fe1973314fa85ea6167722cb981b8fd15344fe3f84fcc49d87e00f29316a39f", func := "loop.example/g01256/laws.FnExactCountCycles", spec := "fnExactCountCycles", inPlace := ["math.archFloor", "math.Float64bits", "math.Float64frombits", "math.archTrunc"], unfollowed := true, recurses := true, apart := false, narrowed := true }
def FnExactCountCyclesUptoSaid : Prop := fnExactCountCyclesUptoRow.holds Try.pinned (OpenSpec.upto fnExactCountCyclesSpec)

end Rows
end Go.Proofs.Ytmpajgpnbiaoiaa
