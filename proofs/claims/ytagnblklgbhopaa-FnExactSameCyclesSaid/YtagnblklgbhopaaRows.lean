/-
  No cell of these rows narrows 'for every input' (looked for: loops, veiled, ifaces, maps, wideKeys, modest, calm, conditions, laid).
  DERIVED. THE GIVEN ROWS OF THIS SEAT. 6 by the template 'for every input the law returns true; each argument reads behind the call as it read before'; 0 by the template 'total and deterministic' (their statements: YtagnblklgbhopaaTotals.lean).
  GIVEN WITH THE SEED: the statements are not yours to turn. If you find one false, say at which input.
  Laid BY PROGRAM, IN A SANDBOX (cutbox-rows.mjs): the forced cells as the released guide's own fill.sh prints them over the translation 7084084108b91a4d… (all of the seat's roots in one cut). By AI agents, Wed Nov 11 2026. No macro, syntax, notation, axiom, sorry.
-/
import Derived.Test.YtagnblklgbhopaaChecked
import GoSem.Claim
import GoSem.ClaimJoined
import GoSem.ClaimMapViews
import Derived.JoinedTies
import Derived.KernelRfl
namespace Go.Proofs.Ytagnblklgbhopaa
/- THE CELL 'sum', in the pinned program and in every row, IS THE sha256 OF THE DUMP (.gsa) THAT YtagnblklgbhopaaProg.lean LOADS. Nothing in Lean hashes anything: it is a label: what it is worth is what the hold of that sum in a sandbox is worth. -/
noncomputable def Try.pinned : Pinned := { name := "ytagnblklgbhopaa", sum := "7084084108b91a4d4ca26fa1882904c9f6094e8727a87fd49ab299fc0139166a", checked := Try.checked }
namespace Rows
def none {H : Type} : Left H := { results := [], args := [] }

/-- 'laws.FnExactSameCycles': WHATEVER THE INPUT: true; the input reads as it did. -/
def fnExactSameCyclesSpec : ChangeSpec := { name := "fnExactSameCycles", fn := fun _ => fun
  | [d1, d2] => { results := [.lit (.bool true)], args := [d1, d2] }
  | _ => none }
def fnExactSameCyclesRow : OpenClaim := { program := "ytagnblklgbhopaa", sum := "7084084108b91a4d4ca26fa1882904c9f6094e8727a87fd49ab299fc0139166a", func := "loop.example/g01256/laws.FnExactSameCycles", spec := "fnExactSameCycles", inPlace := ["math.Float32bits", "math.Float64bits"], unfollowed := true, recurses := true, apart := false }
def FnExactSameCyclesSaid : Prop := fnExactSameCyclesRow.holds Try.pinned (OpenSpec.ofChange fnExactSameCyclesSpec)

/-- ITS FALSE NEIGHBOUR: 'it returns false'. Refute it at one input. -/
def fnExactSameCyclesWrong : ChangeSpec := { name := "fnExactSameCycles", fn := fun _ => fun
  | [d1, d2] => { results := [.lit (.bool false)], args := [d1, d2] }
  | _ => none }
def FnExactSameCyclesWrongFalsely : Prop := fnExactSameCyclesRow.holds Try.pinned (OpenSpec.ofChange fnExactSameCyclesWrong)

/-- 'laws.FnExactMixLoads': WHATEVER THE INPUT: true; the input reads as it did. -/
def fnExactMixLoadsSpec : ChangeSpec := { name := "fnExactMixLoads", fn := fun _ => fun
  | [d1, d2, d3, d4] => { results := [.lit (.bool true)], args := [d1, d2, d3, d4] }
  | _ => none }
def fnExactMixLoadsRow : OpenClaim := { program := "ytagnblklgbhopaa", sum := "7084084108b91a4d4ca26fa1882904c9f6094e8727a87fd49ab299fc0139166a", func := "loop.example/g01256/laws.FnExactMixLoads", spec := "fnExactMixLoads", unfollowed := true, recurses := true, apart := false }
def FnExactMixLoadsSaid : Prop := fnExactMixLoadsRow.holds Try.pinned (OpenSpec.ofChange fnExactMixLoadsSpec)

/-- ITS FALSE NEIGHBOUR: 'it returns false'. Refute it at one input. -/
def fnExactMixLoadsWrong : ChangeSpec := { name := "fnExactMixLoads", fn := fun _ => fun
  | [d1, d2, d3, d4] => { results := [.lit (.bool false)], args := [d1, d2, d3, d4] }
  | _ => none }
def FnExactMixLoadsWrongFalsely : Prop := fnExactMixLoadsRow.holds Try.pinned (OpenSpec.ofChange fnExactMixLoadsWrong)

/-- 'laws.FnExactEndsOf': WHATEVER THE INPUT: true; the input reads as it did. -/
def fnExactEndsOfSpec : ChangeSpec := { name := "fnExactEndsOf", fn := fun _ => fun
  | [d] => { results := [.lit (.bool true)], args := [d] }
  | _ => none }
def fnExactEndsOfRow : OpenClaim := { program := "ytagnblklgbhopaa", sum := "7084084108b91a4d4ca26fa1882904c9f6094e8727a87fd49ab299fc0139166a", func := "loop.example/g01256/laws.FnExactEndsOf", spec := "fnExactEndsOf", unfollowed := true, recurses := true, apart := false }
def FnExactEndsOfSaid : Prop := fnExactEndsOfRow.holds Try.pinned (OpenSpec.ofChange fnExactEndsOfSpec)

/-- ITS FALSE NEIGHBOUR: 'it returns false'. Refute it at one input. -/
def fnExactEndsOfWrong : ChangeSpec := { name := "fnExactEndsOf", fn := fun _ => fun
  | [d] => { results := [.lit (.bool false)], args := [d] }
  | _ => none }
def FnExactEndsOfWrongFalsely : Prop := fnExactEndsOfRow.holds Try.pinned (OpenSpec.ofChange fnExactEndsOfWrong)

/-- 'laws.FnExactLongestCycle': WHATEVER THE INPUT: true; the input reads as it did. -/
def fnExactLongestCycleSpec : ChangeSpec := { name := "fnExactLongestCycle", fn := fun _ => fun
  | [d] => { results := [.lit (.bool true)], args := [d] }
  | _ => none }
def fnExactLongestCycleRow : OpenClaim := { program := "ytagnblklgbhopaa", sum := "7084084108b91a4d4ca26fa1882904c9f6094e8727a87fd49ab299fc0139166a", func := "loop.example/g01256/laws.FnExactLongestCycle", spec := "fnExactLongestCycle", unfollowed := true, recurses := true, apart := false }
def FnExactLongestCycleSaid : Prop := fnExactLongestCycleRow.holds Try.pinned (OpenSpec.ofChange fnExactLongestCycleSpec)

/-- ITS FALSE NEIGHBOUR: 'it returns false'. Refute it at one input. -/
def fnExactLongestCycleWrong : ChangeSpec := { name := "fnExactLongestCycle", fn := fun _ => fun
  | [d] => { results := [.lit (.bool false)], args := [d] }
  | _ => none }
def FnExactLongestCycleWrongFalsely : Prop := fnExactLongestCycleRow.holds Try.pinned (OpenSpec.ofChange fnExactLongestCycleWrong)

/-- 'laws.FnExactRunTower': WHATEVER THE INPUT: true; the input reads as it did. -/
def fnExactRunTowerSpec : ChangeSpec := { name := "fnExactRunTower", fn := fun _ => fun
  | [d1, d2, d3, d4, d5] => { results := [.lit (.bool true)], args := [d1, d2, d3, d4, d5] }
  | _ => none }
def fnExactRunTowerRow : OpenClaim := { program := "ytagnblklgbhopaa", sum := "7084084108b91a4d4ca26fa1882904c9f6094e8727a87fd49ab299fc0139166a", func := "loop.example/g01256/laws.FnExactRunTower", spec := "fnExactRunTower", unfollowed := true, recurses := true, apart := false }
def FnExactRunTowerSaid : Prop := fnExactRunTowerRow.holds Try.pinned (OpenSpec.ofChange fnExactRunTowerSpec)

/-- ITS FALSE NEIGHBOUR: 'it returns false'. Refute it at one input. -/
def fnExactRunTowerWrong : ChangeSpec := { name := "fnExactRunTower", fn := fun _ => fun
  | [d1, d2, d3, d4, d5] => { results := [.lit (.bool false)], args := [d1, d2, d3, d4, d5] }
  | _ => none }
def FnExactRunTowerWrongFalsely : Prop := fnExactRunTowerRow.holds Try.pinned (OpenSpec.ofChange fnExactRunTowerWrong)

/-- 'laws.FnExactDamageOf': WHATEVER THE INPUT: true; the input reads as it did. -/
def fnExactDamageOfSpec : ChangeSpec := { name := "fnExactDamageOf", fn := fun _ => fun
  | [d1, d2, d3] => { results := [.lit (.bool true)], args := [d1, d2, d3] }
  | _ => none }
def fnExactDamageOfRow : OpenClaim := { program := "ytagnblklgbhopaa", sum := "7084084108b91a4d4ca26fa1882904c9f6094e8727a87fd49ab299fc0139166a", func := "loop.example/g01256/laws.FnExactDamageOf", spec := "fnExactDamageOf", unfollowed := true, recurses := true, apart := false }
def FnExactDamageOfSaid : Prop := fnExactDamageOfRow.holds Try.pinned (OpenSpec.ofChange fnExactDamageOfSpec)

/-- ITS FALSE NEIGHBOUR: 'it returns false'. Refute it at one input. -/
def fnExactDamageOfWrong : ChangeSpec := { name := "fnExactDamageOf", fn := fun _ => fun
  | [d1, d2, d3] => { results := [.lit (.bool false)], args := [d1, d2, d3] }
  | _ => none }
def FnExactDamageOfWrongFalsely : Prop := fnExactDamageOfRow.holds Try.pinned (OpenSpec.ofChange fnExactDamageOfWrong)

/- THE SECOND FORM. 'bulk': how many values and letters a reading holds, each counted each time it is reached (what is shared counts as often as it is met; a slice's spare places count too). A statement '..UptoSaid' is the law's where the arguments, and the package variables that the reading takes, are together of bulk at most 1048576: NARROWER than '..Said'. Prove '..Said' where nothing that the law and all that it calls make is longer than what came in: it says more and counts as full. Else prove '..UptoSaid'. A law counts once. -/
mutual
def uptoBulk {H : Type} : DataW H → Nat
  | .lit (.string bytes) => bytes.length + 1
  | .lit _ => 1
  | .nil => 1
  | .ptr d => uptoBulk d + 1
  | .slice elems spare => uptoBulkAll elems + uptoBulkAll spare + 1
  | .agg parts => uptoBulkAll parts + 1
  | .iface _ d => uptoBulk d + 1
  | .map entries => uptoBulkEntries entries + 1
  | .held _ => 1
def uptoBulkAll {H : Type} : List (DataW H) → Nat
  | [] => 0
  | d :: r => uptoBulk d + uptoBulkAll r
def uptoBulkEntries {H : Type} : List (Lit × DataW H) → Nat
  | [] => 0
  | x :: r => uptoBulkEntry x + uptoBulkEntries r
def uptoBulkEntry {H : Type} : Lit × DataW H → Nat
  | (.string bytes, d) => bytes.length + uptoBulk d + 1
  | (_, d) => uptoBulk d + 1
 end
def uptoSmall : (H : Type) → List (DataW H) → Bool := fun _ ds => decide (uptoBulkAll ds ≤ 1048576)
def OpenSpec.upto (s : _root_.Go.ChangeSpec) : _root_.Go.OpenSpec := { _root_.Go.OpenSpec.ofChange s with cond := some uptoSmall }

/-- 'laws.FnExactSameCycles', WHERE WHAT IT READS IS OF BULK AT MOST 1048576: true; the input reads as it did. -/
def fnExactSameCyclesUptoRow : OpenClaim := { program := "ytagnblklgbhopaa", sum := "7084084108b91a4d4ca26fa1882904c9f6094e8727a87fd49ab299fc0139166a", func := "loop.example/g01256/laws.FnExactSameCycles", spec := "fnExactSameCycles", inPlace := ["math.Float32bits", "math.Float64bits"], unfollowed := true, recurses := true, apart := false, narrowed := true }
def FnExactSameCyclesUptoSaid : Prop := fnExactSameCyclesUptoRow.holds Try.pinned (OpenSpec.upto fnExactSameCyclesSpec)

/-- 'laws.FnExactMixLoads', WHERE WHAT IT READS IS OF BULK AT MOST 1048576: true; the input reads as it did. -/
def fnExactMixLoadsUptoRow : OpenClaim := { program := "ytagnblklgbhopaa", sum := "7084084108b91a4d4ca26fa1882904c9f6094e8727a87fd49ab299fc0139166a", func := "loop.example/g01256/laws.FnExactMixLoads", spec := "fnExactMixLoads", unfollowed := true, recurses := true, apart := false, narrowed := true }
def FnExactMixLoadsUptoSaid : Prop := fnExactMixLoadsUptoRow.holds Try.pinned (OpenSpec.upto fnExactMixLoadsSpec)

/-- 'laws.FnExactEndsOf', WHERE WHAT IT READS IS OF BULK AT MOST 1048576: true; the input reads as it did. -/
def fnExactEndsOfUptoRow : OpenClaim := { program := "ytagnblklgbhopaa", sum := "7084084108b91a4d4ca26fa1882904c9f6094e8727a87fd49ab299fc0139166a", func := "loop.example/g01256/laws.FnExactEndsOf", spec := "fnExactEndsOf", unfollowed := true, recurses := true, apart := false, narrowed := true }
def FnExactEndsOfUptoSaid : Prop := fnExactEndsOfUptoRow.holds Try.pinned (OpenSpec.upto fnExactEndsOfSpec)

/-- 'laws.FnExactLongestCycle', WHERE WHAT IT READS IS OF BULK AT MOST 1048576: true; the input reads as it did. -/
def fnExactLongestCycleUptoRow : OpenClaim := { program := "ytagnblklgbhopaa", sum := "7084084108b91a4d4ca26fa1882904c9f6094e8727a87fd49ab299fc0139166a", func := "loop.example/g01256/laws.FnExactLongestCycle", spec := "fnExactLongestCycle", unfollowed := true, recurses := true, apart := false, narrowed := true }
def FnExactLongestCycleUptoSaid : Prop := fnExactLongestCycleUptoRow.holds Try.pinned (OpenSpec.upto fnExactLongestCycleSpec)

/-- 'laws.FnExactRunTower', WHERE WHAT IT READS IS OF BULK AT MOST 1048576: true; the input reads as it did. -/
def fnExactRunTowerUptoRow : OpenClaim := { program := "ytagnblklgbhopaa", sum := "7084084108b91a4d4ca26fa1882904c9f6094e8727a87fd49ab299fc0139166a", func := "loop.example/g01256/laws.FnExactRunTower", spec := "fnExactRunTower", unfollowed := true, recurses := true, apart := false, narrowed := true }
def FnExactRunTowerUptoSaid : Prop := fnExactRunTowerUptoRow.holds Try.pinned (OpenSpec.upto fnExactRunTowerSpec)

/-- 'laws.FnExactDamageOf', WHERE WHAT IT READS IS OF BULK AT MOST 1048576: true; the input reads as it did. -/
def fnExactDamageOfUptoRow : OpenClaim := { program := "ytagnblklgbhopaa", sum := "7084084108b91a4d4ca26fa1882904c9f6094e8727a87fd49ab299fc0139166a", func := "loop.example/g01256/laws.FnExactDamageOf", spec := "fnExactDamageOf", unfollowed := true, recurses := true, apart := false, narrowed := true }
def FnExactDamageOfUptoSaid : Prop := fnExactDamageOfUptoRow.holds Try.pinned (OpenSpec.upto fnExactDamageOfSpec)

end Rows
end Go.Proofs.Ytagnblklgbhopaa
