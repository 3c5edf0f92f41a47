/- Plain laws: the worst of the loads. -/
import Derived.Test.YtmpmnhnobgidoaaWA
import Derived.Test.YtmpmnhnobgidoaaD
namespace Go.Proofs.Ytmpmnhnobgidoaa
set_option linter.unusedSimpArgs false
set_option linter.unusedVariables false
open Go.RowKit Go.Fl

def rowAt (xss : List (List Nat)) (i : Nat) : List Nat := xss[i]?.getD []
def wstep (xs : List Nat) (i : Nat) (st : List Nat × List Int) (j : Nat) : List Nat × List Int :=
  if fgt .f32 (xs[j]?.getD 0) (st.1[j]?.getD 0) then (st.1.set j (xs[j]?.getD 0), st.2.set j (i : Int)) else st
def wrow (xs : List Nat) (i : Nat) (st : List Nat × List Int) : Nat → List Nat × List Int
  | 0 => st
  | j + 1 => wstep xs i (wrow xs i st j) j
def wall (xss : List (List Nat)) (m : Nat) : Nat → List Nat × List Int
  | 0 => (rowAt xss 0, List.replicate m 0)
  | i + 1 => wrow (rowAt xss i) i (wall xss m i) m
theorem wstep_len (xs : List Nat) (i : Nat) (st : List Nat × List Int) (j : Nat) : (wstep xs i st j).1.length = st.1.length ∧ (wstep xs i st j).2.length = st.2.length := by
  unfold wstep; split <;> simp
theorem wrow_len (xs : List Nat) (i : Nat) (st : List Nat × List Int) : ∀ j, (wrow xs i st j).1.length = st.1.length ∧ (wrow xs i st j).2.length = st.2.length
  | 0 => ⟨rfl, rfl⟩
  | j + 1 => by
    have h1 := wrow_len xs i st j
    have h2 := wstep_len xs i (wrow xs i st j) j
    exact ⟨h2.1.trans h1.1, h2.2.trans h1.2⟩
theorem wall_len (xss : List (List Nat)) (m : Nat) (hm : (rowAt xss 0).length = m) : ∀ i, (wall xss m i).1.length = m ∧ (wall xss m i).2.length = m
  | 0 => ⟨hm, by simp [wall]⟩
  | i + 1 => by
    have h1 := wall_len xss m hm i
    have h2 := wrow_len (rowAt xss i) i (wall xss m i) m
    exact ⟨h2.1.trans h1.1, h2.2.trans h1.2⟩
theorem wstep_yes {xs : List Nat} {i : Nat} {st : List Nat × List Int} {j : Nat} (h1 : j < xs.length) (h2 : j < st.1.length) (h : fgt .f32 xs[j] st.1[j] = true) : wstep xs i st j = (st.1.set j xs[j], st.2.set j (i : Int)) := by
  unfold wstep
  rw [List.getElem?_eq_getElem h1, List.getElem?_eq_getElem h2]
  simp only [Option.getD_some]
  rw [if_pos h]
theorem wstep_no {xs : List Nat} {i : Nat} {st : List Nat × List Int} {j : Nat} (h1 : j < xs.length) (h2 : j < st.1.length) (h : fgt .f32 xs[j] st.1[j] = false) : wstep xs i st j = st := by
  unfold wstep
  rw [List.getElem?_eq_getElem h1, List.getElem?_eq_getElem h2]
  simp only [Option.getD_some]
  rw [if_neg (by rw [h]; decide)]
/-- Rows that may be compared. -/
def rowOk (xss : List (List Nat)) (xs : List Nat) : Bool := loadsOk xs && xs.length == (rowAt xss 0).length
def wGood (xss : List (List Nat)) : Bool := decide (1 ≤ xss.length) && decide (xss.length ≤ 32) && xss.all (rowOk xss)
def wres (xss : List (List Nat)) : List Nat × List Int := if wGood xss then wall xss (rowAt xss 0).length xss.length else ([], [])
theorem wGood_no {xss : List (List Nat)} {k : Nat} (hk : k < xss.length) (h : rowOk xss xss[k] = false) : wGood xss = false := by
  unfold wGood
  have : xss.all (rowOk xss) = false := by
    rw [List.all_eq_false]
    exact ⟨xss[k], List.getElem_mem hk, by rw [h]; decide⟩
  rw [this, Bool.and_false]
theorem wGood_yes {xss : List (List Nat)} (h1 : 1 ≤ xss.length) (h2 : xss.length ≤ 32) (h : ∀ j (hj : j < xss.length), rowOk xss xss[j] = true) : wGood xss = true := by
  unfold wGood
  have : xss.all (rowOk xss) = true := by
    rw [List.all_eq_true]
    exact all_idx h
  rw [this]; simp; omega
theorem rowAt_eq {xss : List (List Nat)} {k : Nat} (hk : k < xss.length) : rowAt xss k = xss[k] := by unfold rowAt; rw [List.getElem?_eq_getElem hk]; rfl
/-- What WorstLoads answers. -/
def WOut (xss : List (List Nat)) (w : World) (e : Ending) (w' : World) : Prop := ∃ u1 u2, e = .returned (.tuple #[u1, u2, .bool (wGood xss)]) ∧ OF w.heap.size w' u1 (wres xss).1 ∧ OI w.heap.size w' u2 (wres xss).2 ∧ Dis u1 u2 ∧ Below w.heap.size w w'
theorem WOut.no {xss : List (List Nat)} {w w' : World} (h : wGood xss = false) (hb : Below w.heap.size w w') : WOut xss w (.returned (.tuple #[.slice none 0 0, .slice none 0 0, .bool false])) w' := by
  refine ⟨_, _, by rw [h], ?_, ?_, (fun k h => by cases h), hb⟩
  · unfold wres; rw [h]; exact World.ownsRow_nil _ _ _ _
  · unfold wres; rw [h]; exact OI_nil _ _
theorem WOut.ok {xss : List (List Nat)} {w w' : World} {u1 u2 : Value} {m n : Nat} (h : wGood xss = true) (hm : (rowAt xss 0).length = m) (hn : n = xss.length) (h1 : OF w.heap.size w' u1 (wall xss m n).1) (h2 : OI w.heap.size w' u2 (wall xss m n).2) (hd : Dis u1 u2) (hb : Below w.heap.size w w') : WOut xss w (.returned (.tuple #[u1, u2, .bool true])) w' := by
  subst hm hn
  refine ⟨u1, u2, by rw [h], ?_, ?_, hd, hb⟩
  · unfold wres; rw [if_pos h]; exact h1
  · unfold wres; rw [if_pos h]; exact h2
theorem zero_cells (m : Nat) : (madeCells #[Value.int .i64 0] m).toList = (List.replicate m (0 : Int)).map (Value.int .i64) := by
  rw [toList_madeCells_one]; simp
theorem row_facts {xss : List (List Nat)} {x0 : List Nat} (hz : rowAt xss 0 = x0) (h0 : 0 < xss.length) (h : ∀ j (hj : j < xss.length), rowOk xss xss[j] = true) : (∀ j (hj : j < xss.length), xss[j].length = x0.length) ∧ 1 ≤ x0.length ∧ x0.length ≤ 64 := by
  refine ⟨fun j hj => ?_, ?_⟩
  · have := h j hj
    unfold rowOk at this
    rw [hz] at this
    simp at this
    exact this.2
  · have := h 0 h0
    rw [← rowAt_eq h0, hz] at this
    unfold rowOk loadsOk at this
    simp at this
    omega
end Go.Proofs.Ytmpmnhnobgidoaa
