/-
  No cell of these rows narrows 'for every input' (looked for: loops, veiled, ifaces, maps, wideKeys, modest, calm, conditions, laid).
  DERIVED. THE GIVEN ROWS OF THIS SEAT. 6 by the template 'for every input the law returns true; each argument reads behind the call as it read before'; 0 by the template 'total and deterministic' (their statements: YtmpmnhnobgidoaaTotals.lean).
  GIVEN WITH THE SEED: the statements are not yours to turn. If you find one false, say at which input.
  Laid BY PROGRAM, IN A SANDBOX (cutbox-rows.mjs): the forced cells as the released guide's own fill.sh prints them over the translation d5e46b9b4077298e… (all of the seat's roots in one cut). By AI agents, Wed Nov 11 2026. No macro, syntax, notation, axiom, sorry.
-/
import Derived.Test.YtmpmnhnobgidoaaChecked
import GoSem.Claim
import GoSem.ClaimJoined
import GoSem.ClaimMapViews
import Derived.JoinedTies
import Derived.KernelRfl
namespace Go.Proofs.Ytmpmnhnobgidoaa
/- THE CELL 'sum', in the pinned program and in every row, IS THE sha256 OF THE DUMP (.gsa) THAT YtmpmnhnobgidoaaProg.lean LOADS. Nothing in Lean hashes anything: it is a label: what it is worth is what the hold of that sum in a sandbox is worth. -/
noncomputable def Try.pinned : Pinned := { name := "ytmpmnhnobgidoaa", sum := "d5e46b9b4077298e9d257d463e13e01b89b5ac876471b80fb9110dae7a701ca6", checked := Try.checked }
namespace Rows
def none {H : Type} : Left H := { results := [], args := [] }

/-- 'laws.FnLists': WHATEVER THE INPUT: true; the input reads as it did. -/
def fnListsSpec : ChangeSpec := { name := "fnLists", fn := fun _ => fun
  | [d1, d2] => { results := [.lit (.bool true)], args := [d1, d2] }
  | _ => none }
def fnListsRow : OpenClaim := { program := "ytmpmnhnobgidoaa", sum := "d5e46b9b4077298e9d257d463e13e01b89b5ac876471b80fb9110dae7a701ca6", func := "loop.example/g01256/laws.FnLists", spec := "fnLists", inPlace := ["math.sqrt"], unfollowed := true, recurses := true, apart := false }
def FnListsSaid : Prop := fnListsRow.holds Try.pinned (OpenSpec.ofChange fnListsSpec)

/-- ITS FALSE NEIGHBOUR: 'it returns false'. Refute it at one input. -/
def fnListsWrong : ChangeSpec := { name := "fnLists", fn := fun _ => fun
  | [d1, d2] => { results := [.lit (.bool false)], args := [d1, d2] }
  | _ => none }
def FnListsWrongFalsely : Prop := fnListsRow.holds Try.pinned (OpenSpec.ofChange fnListsWrong)

/-- 'laws.FnDamage': WHATEVER THE INPUT: true; the input reads as it did. -/
def fnDamageSpec : ChangeSpec := { name := "fnDamage", fn := fun _ => fun
  | [d1, d2] => { results := [.lit (.bool true)], args := [d1, d2] }
  | _ => none }
def fnDamageRow : OpenClaim := { program := "ytmpmnhnobgidoaa", sum := "d5e46b9b4077298e9d257d463e13e01b89b5ac876471b80fb9110dae7a701ca6", func := "loop.example/g01256/laws.FnDamage", spec := "fnDamage", inPlace := ["math.sqrt"], unfollowed := true, recurses := true, apart := false }
def FnDamageSaid : Prop := fnDamageRow.holds Try.pinned (OpenSpec.ofChange fnDamageSpec)

/-- ITS FALSE NEIGHBOUR: 'it returns false'. Refute it at one input. -/
def fnDamageWrong : ChangeSpec := { name := "fnDamage", fn := fun _ => fun
  | [d1, d2] => { results := [.lit (.bool false)], args := [d1, d2] }
  | _ => none }
def FnDamageWrongFalsely : Prop := fnDamageRow.holds Try.pinned (OpenSpec.ofChange fnDamageWrong)

/-- 'laws.FnCycles': WHATEVER THE INPUT: true; the input reads as it did. -/
def fnCyclesSpec : ChangeSpec := { name := "fnCycles", fn := fun _ => fun
  | [d1, d2] => { results := [.lit (.bool true)], args := [d1, d2] }
  | _ => none }
def fnCyclesRow : OpenClaim := { program := "ytmpmnhnobgidoaa", sum := "d5e46b9b4077298e9d257d463e13e01b89b5ac876471b80fb9110dae7a701ca6", func := "loop.example/g01256/laws.FnCycles", spec := "fnCycles", inPlace := ["math.archFloor", "math.Float64bits", "math.Float64frombits", "math.archTrunc"], unfollowed := true, recurses := true, apart := false }
def FnCyclesSaid : Prop := fnCyclesRow.holds Try.pinned (OpenSpec.ofChange fnCyclesSpec)

/-- ITS FALSE NEIGHBOUR: 'it returns false'. Refute it at one input. -/
def fnCyclesWrong : ChangeSpec := { name := "fnCycles", fn := fun _ => fun
  | [d1, d2] => { results := [.lit (.bool false)], args := [d1, d2] }
  | _ => none }
def FnCyclesWrongFalsely : Prop := fnCyclesRow.holds Try.pinned (OpenSpec.ofChange fnCyclesWrong)

/-- 'laws.FnTowers': WHATEVER THE INPUT: true; the input reads as it did. -/
def fnTowersSpec : ChangeSpec := { name := "fnTowers", fn := fun _ => fun
  | [d1, d2] => { results := [.lit (.bool true)], args := [d1, d2] }
  | _ => none }
def fnTowersRow : OpenClaim := { program := "ytmpmnhnobgidoaa", sum := "d5e46b9b4077298e9d257d463e13e01b89b5ac876471b80fb9110dae7a701ca6", func := "loop.example/g01256/laws.FnTowers", spec := "fnTowers", inPlace := ["math.sqrt", "math.Float32bits"], unfollowed := true, recurses := true, apart := false }
def FnTowersSaid : Prop := fnTowersRow.holds Try.pinned (OpenSpec.ofChange fnTowersSpec)

/-- ITS FALSE NEIGHBOUR: 'it returns false'. Refute it at one input. -/
def fnTowersWrong : ChangeSpec := { name := "fnTowers", fn := fun _ => fun
  | [d1, d2] => { results := [.lit (.bool false)], args := [d1, d2] }
  | _ => none }
def FnTowersWrongFalsely : Prop := fnTowersRow.holds Try.pinned (OpenSpec.ofChange fnTowersWrong)

/-- 'laws.FnSpectra': WHATEVER THE INPUT: true; the input reads as it did. -/
def fnSpectraSpec : ChangeSpec := { name := "fnSpectra", fn := fun _ => fun
  | [d1, d2] => { results := [.lit (.bool true)], args := [d1, d2] }
  | _ => none }
def fnSpectraRow : OpenClaim := { program := "ytmpmnhnobgidoaa", sum := "d5e46b9b4077298e9d257d463e13e01b89b5ac876471b80fb9110dae7a701ca6", func := "loop.example/g01256/laws.FnSpectra", spec := "fnSpectra", inPlace := ["math.Float64frombits", "math.Float64bits", "math.archTrunc"], unfollowed := true, recurses := true, apart := false }
def FnSpectraSaid : Prop := fnSpectraRow.holds Try.pinned (OpenSpec.ofChange fnSpectraSpec)

/-- ITS FALSE NEIGHBOUR: 'it returns false'. Refute it at one input. -/
def fnSpectraWrong : ChangeSpec := { name := "fnSpectra", fn := fun _ => fun
  | [d1, d2] => { results := [.lit (.bool false)], args := [d1, d2] }
  | _ => none }
def FnSpectraWrongFalsely : Prop := fnSpectraRow.holds Try.pinned (OpenSpec.ofChange fnSpectraWrong)

/-- 'laws.FnExactSpectrumOfLoads': WHATEVER THE INPUT: true; the input reads as it did. -/
def fnExactSpectrumOfLoadsSpec : ChangeSpec := { name := "fnExactSpectrumOfLoads", fn := fun _ => fun
  | [d] => { results := [.lit (.bool true)], args := [d] }
  | _ => none }
def fnExactSpectrumOfLoadsRow : OpenClaim := { program := "ytmpmnhnobgidoaa", sum := "d5e46b9b4077298e9d257d463e13e01b89b5ac876471b80fb9110dae7a701ca6", func := "loop.example/g01256/laws.FnExactSpectrumOfLoads", spec := "fnExactSpectrumOfLoads", inPlace := ["math.Float32frombits", "math.Float64frombits", "math.Float64bits", "math.archTrunc"], unfollowed := true, recurses := true, apart := false }
def FnExactSpectrumOfLoadsSaid : Prop := fnExactSpectrumOfLoadsRow.holds Try.pinned (OpenSpec.ofChange fnExactSpectrumOfLoadsSpec)

/-- ITS FALSE NEIGHBOUR: 'it returns false'. Refute it at one input. -/
def fnExactSpectrumOfLoadsWrong : ChangeSpec := { name := "fnExactSpectrumOfLoads", fn := fun _ => fun
  | [d] => { results := [.lit (.bool false)], args := [d] }
  | _ => none }
def FnExactSpectrumOfLoadsWrongFalsely : Prop := fnExactSpectrumOfLoadsRow.holds Try.pinned (OpenSpec.ofChange fnExactSpectrumOfLoadsWrong)

/- THE SECOND FORM. 'bulk': how many values and letters a reading holds, each counted each time it is reached (what is shared counts as often as it is met; a slice's spare places count too). A statement '..UptoSaid' is the law's where the arguments, and the package variables that the reading takes, are together of bulk at most 1048576: NARROWER than '..Said'. Prove '..Said' where nothing that the law and all that it calls make is longer than what came in: it says more and counts as full. Else prove '..UptoSaid'. A law counts once. -/
mutual
def uptoBulk {H : Type} : DataW H → Nat
  | .lit (.string bytes) => bytes.length + 1
  | .lit _ => 1
  | .nil => 1
  | .ptr d => uptoBulk d + 1
  | .slice elems spare => uptoBulkAll elems + uptoBulkAll spare + 1
  | .agg parts => uptoBulkAll parts + 1
  | .iface _ d => uptoBulk d + 1
  | .map entries => uptoBulkEntries entries + 1
  | .held _ => 1
def uptoBulkAll {H : Type} : List (DataW H) → Nat
  | [] => 0
  | d :: r => uptoBulk d + uptoBulkAll r
def uptoBulkEntries {H : Type} : List (Lit × DataW H) → Nat
  | [] => 0
  | x :: r => uptoBulkEntry x + uptoBulkEntries r
def uptoBulkEntry {H : Type} : Lit × DataW H → Nat
  | (.string bytes, d) => bytes.length + uptoBulk d + 1
  | (_, d) => uptoBulk d + 1
 end
def uptoSmall : (H : Type) → List (DataW H) → Bool := fun _ ds => decide (uptoBulkAll ds ≤ 1048576)
def OpenSpec.upto (s : _root_.Go.ChangeSpec) : _root_.Go.OpenSpec := { _root_.Go.OpenSpec.ofChange s with cond := some uptoSmall }

/-- 'laws.FnLists', WHERE WHAT IT READS IS OF BULK AT MOST 1048576: true; the input reads as it did. -/
def fnListsUptoRow : OpenClaim := { program := "ytmpmnhnobgidoaa", sum := "d5e46b9b4077298e9d257d463e13e01b89b5ac876471b80fb9110dae7a701ca6", func := "loop.example/g01256/laws.FnLists", spec := "fnLists", inPlace := ["math.sqrt"], unfollowed := true, recurses := true, apart := false, narrowed := true }
def FnListsUptoSaid : Prop := fnListsUptoRow.holds Try.pinned (OpenSpec.upto fnListsSpec)

/-- 'laws.FnDamage', WHERE WHAT IT READS IS OF BULK AT MOST 1048576: true; the input reads as it did. -/
def fnDamageUptoRow : OpenClaim := { program := "ytmpmnhnobgidoaa", sum := "d5e46b9b4077298e9d257d463e13e01b89b5ac876471b80fb9110dae7a701ca6", func := "loop.example/g01256/laws.FnDamage", spec := "fnDamage", inPlace := ["math.sqrt"], unfollowed := true, recurses := true, apart := false, narrowed := true }
def FnDamageUptoSaid : Prop := fnDamageUptoRow.holds Try.pinned (OpenSpec.upto fnDamageSpec)

/-- 'laws.FnCycles', WHERE WHAT IT READS IS OF BULK AT MOST 1048576: true; the input reads as it did. -/
def fnCyclesUptoRow : OpenClaim := { program := "ytmpmnhnobgidoaa", sum := "d5e46b9b4077298e9d257d463e13e01b89b5ac876471b80fb9110dae7a701ca6", func := "loop.example/g01256/laws.FnCycles", spec := "fnCycles", inPlace := ["math.archFloor", "math.Float64bits", "math.Float64frombits", "math.archTrunc"], unfollowed := true, recurses := true, apart := false, narrowed := true }
def FnCyclesUptoSaid : Prop := fnCyclesUptoRow.holds Try.pinned (OpenSpec.upto fnCyclesSpec)

/-- 'laws.FnTowers', WHERE WHAT IT READS IS OF BULK AT MOST 1048576: true; the input reads as it did. -/
def fnTowersUptoRow : OpenClaim := { program := "ytmpmnhnobgidoaa", sum := "d5e46b9b4077298e9d257d463e13e01b89b5ac876471b80fb9110dae7a701ca6", func := "loop.example/g01256/laws.FnTowers", spec := "fnTowers", inPlace := ["math.sqrt", "math.Float32bits"], unfollowed := true, recurses := true, apart := false, narrowed := true }
def FnTowersUptoSaid : Prop := fnTowersUptoRow.holds Try.pinned (OpenSpec.upto fnTowersSpec)

/-- 'laws.FnSpectra', WHERE WHAT IT READS IS OF BULK AT MOST 1048576: true; the input reads as it did. -/
def fnSpectraUptoRow : OpenClaim := { program := "ytmpmnhnobgidoaa", sum := "d5e46b9b4077298e9d257d463e13e01b89b5ac876471b80fb9110dae7a701ca6", func := "loop.example/g01256/laws.FnSpectra", spec := "fnSpectra", inPlace := ["math.Float64frombits", "math.Float64bits", "math.archTrunc"], unfollowed := true, recurses := true, apart := false, narrowed := true }
def FnSpectraUptoSaid : Prop := fnSpectraUptoRow.holds Try.pinned (OpenSpec.upto fnSpectraSpec)

/-- 'laws.FnExactSpectrumOfLoads', WHERE WHAT IT READS IS OF BULK AT MOST 1048576: true; the input reads as it did. -/
def fnExactSpectrumOfLoadsUptoRow : OpenClaim := { program := "ytmpmnhnobgidoaa", sum := "d5e46b9b4077298e9d257d463e13e01b89b5ac876471b80fb9110dae7a701ca6", func := "loop.example/g01256/laws.FnExactSpectrumOfLoads", spec := "fnExactSpectrumOfLoads", inPlace := ["math.Float32frombits", "math.Float64frombits", "math.Float64bits", "math.archTrunc"], unfollowed := true, recurses := true, apart := false, narrowed := true }
def FnExactSpectrumOfLoadsUptoSaid : Prop := fnExactSpectrumOfLoadsUptoRow.holds Try.pinned (OpenSpec.upto fnExactSpectrumOfLoadsSpec)

end Rows
end Go.Proofs.Ytmpmnhnobgidoaa
