/- Walks: lists of cycles that are marked, and held against their marks. -/
import Derived.Test.YtmpmnhnobgidoaaM
import Derived.Test.YtmpmnhnobgidoaaE
namespace Go.Proofs.Ytmpmnhnobgidoaa
set_option linter.unusedSimpArgs false
set_option linter.unusedVariables false
open Go.RowKit Go.Fl

/-- The mark of a cycle. -/
def markC (k : Nat) : Cyc := ⟨floatOfInt .f32 (k : Int), floatOfInt .f32 ((k : Int) + 1), ((k : Int) + 1 + 1) % 3 == 0⟩
def marksC (n k : Nat) : List Cyc := (List.range n).map fun i => markC (k + 3 * i)
theorem marksC_length (n k : Nat) : (marksC n k).length = n := by simp [marksC]
def markedToC (cs : List Cyc) (k j : Nat) : List Cyc := marksC j k ++ cs.drop j
theorem markedToC_length (cs : List Cyc) (k j : Nat) (hj : j ≤ cs.length) : (markedToC cs k j).length = cs.length := by simp [markedToC, marksC_length]; omega
theorem markedToC_set (cs : List Cyc) (k j : Nat) (hj : j < cs.length) : (markedToC cs k j).set j (markC (k + 3 * j)) = markedToC cs k (j + 1) := by
  apply List.ext_getElem?
  intro i
  simp only [markedToC, marksC, List.getElem?_set, List.length_append, List.length_map, List.length_range, List.length_drop, List.getElem?_append, List.getElem?_map, List.getElem?_drop]
  by_cases e : j = i
  · subst e
    simp
    omega
  · rw [if_neg e]
    by_cases h : i < j
    · simp [h, show i < j + 1 by omega]
    · rw [if_neg h, if_neg (by omega)]
      congr 1
      omega
theorem markedToC_zero (cs : List Cyc) (k : Nat) : markedToC cs k 0 = cs := by simp [markedToC, marksC]
theorem markedToC_all (cs : List Cyc) (k j : Nat) (hj : cs.length ≤ j) (hj2 : j ≤ cs.length) : markedToC cs k j = marksC cs.length k := by
  obtain rfl : j = cs.length := by omega
  simp [markedToC]
theorem grown_trans {w w1 w2 : World} {o : Option Nat} (h : w.grownBy w1 o) (h2 : w1.grownBy w2 o) : w.grownBy w2 o :=
  ⟨h2.os.trans h.os, h2.tape.trans h.tape, h2.output.trans h.output, Nat.le_trans h.size h2.size, fun i hi hne => (h2.block i (Nat.lt_of_lt_of_le hi h.size) hne).trans (h.block i hi hne)⟩
end Go.Proofs.Ytmpmnhnobgidoaa
