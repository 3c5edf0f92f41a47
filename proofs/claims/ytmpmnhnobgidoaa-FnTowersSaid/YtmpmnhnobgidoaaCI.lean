/- Walks: lists of whole numbers: held against each other, copied, marked. -/
import Derived.Test.YtmpmnhnobgidoaaM
namespace Go.Proofs.Ytmpmnhnobgidoaa
set_option linter.unusedSimpArgs false
set_option linter.unusedVariables false
open Go.RowKit Go.Fl

/-- A slice of whole numbers. -/
def RI (w : World) (v : Value) (xs : List Int) : Prop := Sl w v xs.length (xs.map (Value.int .i64))
def OI (B : Nat) (w : World) (v : Value) (xs : List Int) : Prop := w.ownsRow B 2 1 v xs.length (xs.map (Value.int .i64))
theorem RI_of_own {B : Nat} {w : World} {v : Value} {xs : List Int} (h : OI B w v xs) (hn : xs.length ≤ 281474976710656) : RI w v xs := Sl_of_own h hn
theorem OI_below {B : Nat} {w w' : World} {v : Value} {xs : List Int} (h : OI B w v xs) (hb : Below w.heap.size w w') : OI B w' v xs := ownsRow_below h hb
theorem RI_below {w w' : World} {v : Value} {xs : List Int} (h : RI w v xs) (hb : Below w.heap.size w w') : RI w' v xs := Sl.below h (.inr trivial) hb (Nat.le_refl _)
theorem OI_nil (B : Nat) (w : World) : OI B w (.slice none 0 0) [] := World.ownsRow_nil _ _ _ _
/-- The cells of a copy of which the first k are written. -/
def partI (xs : List Int) (k : Nat) : List Value := (xs.take k ++ List.replicate (xs.length - k) 0).map (Value.int .i64)
theorem partI_length (xs : List Int) (k : Nat) (hk : k ≤ xs.length) : (partI xs k).length = xs.length := by simp [partI]; omega
theorem partI_zero (xs : List Int) : (madeCells #[Value.int .i64 0] xs.length).toList = partI xs 0 := by
  rw [toList_madeCells_one]; simp [partI]
theorem partI_set (xs : List Int) (k : Nat) (hk : k < xs.length) : (partI xs k).set k (.int .i64 xs[k]) = partI xs (k + 1) := by
  apply List.ext_getElem?
  intro j
  have h1 : (xs.take k).length = k := by simp; omega
  have h2 : (xs.take (k + 1)).length = k + 1 := by simp; omega
  simp only [partI, List.getElem?_set, List.length_map, List.length_append, List.length_replicate, h1, List.getElem?_map, List.getElem?_append, h2, List.getElem?_take, List.getElem?_replicate]
  by_cases e : k = j
  · subst e
    simp [hk]
    omega
  · rw [if_neg e]
    by_cases h3 : j < k
    · simp [h3, show j < k + 1 by omega]
    · have h4 : ¬ j < k + 1 := by omega
      simp only [h3, h4, if_false]
      by_cases h5 : j - k < xs.length - k
      · rw [if_pos h5, if_pos (by omega)]
      · rw [if_neg h5, if_neg (by omega)]
theorem partI_all (xs : List Int) (k : Nat) (hk : xs.length ≤ k) : partI xs k = xs.map (Value.int .i64) := by
  unfold partI; rw [List.take_of_length_le hk, show xs.length - k = 0 by omega]; simp
/-- The marks from k on. -/
def marksI (n : Nat) (k : Nat) : List Int := (List.range n).map fun (i : Nat) => ((k + i : Nat) : Int)
theorem marksI_length (n k : Nat) : (marksI n k).length = n := by simp [marksI]
/-- What is marked up to j. -/
def markedToI (xs : List Int) (k j : Nat) : List Int := marksI j k ++ xs.drop j
theorem markedToI_length (xs : List Int) (k j : Nat) (hj : j ≤ xs.length) : (markedToI xs k j).length = xs.length := by simp [markedToI, marksI_length]; omega
theorem markedToI_set (xs : List Int) (k j : Nat) (hj : j < xs.length) : ((markedToI xs k j).map (Value.int .i64)).set j (.int .i64 ((k + j : Nat) : Int)) = (markedToI xs k (j + 1)).map (Value.int .i64) := by
  rw [← List.map_set]
  congr 1
  apply List.ext_getElem?
  intro i
  simp only [markedToI, marksI, List.getElem?_set, List.length_append, List.length_map, List.length_range, List.length_drop, List.getElem?_append, List.getElem?_map, List.getElem?_drop]
  by_cases e : j = i
  · subst e
    simp
    omega
  · rw [if_neg e]
    by_cases h : i < j
    · simp [h, show i < j + 1 by omega]
    · rw [if_neg h, if_neg (by omega)]
      congr 1
      omega
theorem markedToI_zero (xs : List Int) (k : Nat) : markedToI xs k 0 = xs := by simp [markedToI, marksI]
theorem markedToI_all (xs : List Int) (k j : Nat) (hj : xs.length ≤ j) (hj2 : j ≤ xs.length) : markedToI xs k j = marksI xs.length k := by
  obtain rfl : j = xs.length := by omega
  simp [markedToI]
end Go.Proofs.Ytmpmnhnobgidoaa
