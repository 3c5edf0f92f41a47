/- Walks: lists of lists of numbers: weighed, copied, held against each other, marked. -/
import Derived.Test.YtmpmnhnobgidoaaCI
import Derived.Test.YtmpmnhnobgidoaaR
namespace Go.Proofs.Ytmpmnhnobgidoaa
set_option linter.unusedSimpArgs false
set_option linter.unusedVariables false
open Go.RowKit Go.Fl

/-- Rows that are read as lists of numbers. -/
def RL (w : World) (us : List Value) (xss : List (List Nat)) : Prop := us.length = xss.length ∧ ∀ i (h1 : i < us.length) (h2 : i < xss.length), RF w us[i] xss[i]
def RFF (w : World) (v : Value) (us : List Value) (xss : List (List Nat)) : Prop := Sl w v us.length us ∧ RL w us xss
theorem RL_below {w w' : World} {us : List Value} {xss : List (List Nat)} (h : RL w us xss) (hb : Below w.heap.size w w') : RL w' us xss := ⟨h.1, fun i h1 h2 => RF_below (h.2 i h1 h2) hb⟩
theorem RFF_below {w w' : World} {v : Value} {us : List Value} {xss : List (List Nat)} (h : RFF w v us xss) (hb : Below w.heap.size w w') : RFF w' v us xss := ⟨Sl.below h.1 (.inr trivial) hb (Nat.le_refl _), RL_below h.2 hb⟩
/-- .. that are a call's own, their blocks in S .. T. -/
structure OFF (S T : Nat) (w : World) (u : Value) (us : List Value) (xss : List (List Nat)) : Prop where
  len : us.length = xss.length
  row : w.ownsRow S 24 1 u us.length us
  inner : ∀ i (h1 : i < us.length) (h2 : i < xss.length), OF S w us[i] xss[i]
  apart : ∀ i j (h1 : i < us.length) (h2 : j < us.length), i ≠ j → Dis us[i] us[j]
  out : ∀ i (h1 : i < us.length), Dis u us[i]
  top : (∀ k, u.ownBlock = some k → k < T) ∧ ∀ i (h1 : i < us.length) k, us[i].ownBlock = some k → k < T
theorem OFF.below {S T : Nat} {w w' : World} {u : Value} {us : List Value} {xss : List (List Nat)} (h : OFF S T w u us xss) (hb : Below w.heap.size w w') : OFF S T w' u us xss :=
  ⟨h.len, ownsRow_below h.row hb, fun i h1 h2 => OF_below (h.inner i h1 h2) hb, h.apart, h.out, h.top⟩
theorem OFF.read {S T : Nat} {w : World} {u : Value} {us : List Value} {xss : List (List Nat)} (h : OFF S T w u us xss) (hl : us.length ≤ 1048576) (hi : ∀ xs ∈ xss, xs.length ≤ 1048576) : RFF w u us xss :=
  ⟨Sl_of_own h.row (by omega), h.len, fun i h1 h2 => RF_of_own (h.inner i h1 h2) (by have := hi _ (List.getElem_mem h2); omega)⟩
/-- Only blocks in S .. T are other ones, or new. -/
structure Only (S T : Nat) (w w' : World) : Prop where
  os : w'.os = w.os
  tape : w'.tape = w.tape
  output : w'.output = w.output
  size : w.heap.size ≤ w'.heap.size
  block : ∀ k, k < w.heap.size → (k < S ∨ T ≤ k) → w'.heap[k]? = w.heap[k]?
theorem Only.refl (S T : Nat) (w : World) : Only S T w w := ⟨rfl, rfl, rfl, Nat.le_refl _, fun _ _ _ => rfl⟩
theorem Only.trans {S T : Nat} {w w1 w2 : World} (h : Only S T w w1) (k : Only S T w1 w2) : Only S T w w2 :=
  ⟨k.os.trans h.os, k.tape.trans h.tape, k.output.trans h.output, Nat.le_trans h.size k.size, fun i hi ho => (k.block i (Nat.lt_of_lt_of_le hi h.size) ho).trans (h.block i hi ho)⟩
theorem Only.of_grown {S T : Nat} {w w' : World} {r : Option Nat} (h : w.grownBy w' r) (hr : ∀ k, r = some k → S ≤ k ∧ k < T) : Only S T w w' :=
  ⟨h.os, h.tape, h.output, h.size, fun i hi ho => h.block i hi fun e => by have := hr i e.symm; omega⟩
theorem Only.below {S T B : Nat} {w w' : World} (h : Only S T w w') (hB : B ≤ S) (hw : B ≤ w.heap.size) : Below B w w' :=
  ⟨h.os, h.tape, h.output, h.size, fun i hi => h.block i (by omega) (.inl (by omega))⟩
theorem Only.own {S T B : Nat} {w w' : World} {v : Value} {n : Nat} {cs : List Value} {e : TypeId} {s : Nat} (h : Only S T w w') (ho : w.ownsRow B e s v n cs) (hv : ∀ k, v.ownBlock = some k → k < S ∨ T ≤ k) : w'.ownsRow B e s v n cs := by
  obtain ⟨hlen, hc⟩ := id ho
  refine ⟨hlen, ?_⟩
  rcases hc with hc | ⟨g, cap, cur, rfl, hB, hg, rest⟩
  · exact .inl hc
  · exact .inr ⟨g, cap, cur, rfl, hB, (h.block g (lt_of_block hg) (hv g rfl)).trans hg, rest⟩
/-- The cells of a row of which the first ones are written. -/
def partV (vs : List Value) (n : Nat) : List Value := vs ++ List.replicate (n - vs.length) (.slice none 0 0)
theorem partV_set (vs : List Value) (n : Nat) (u : Value) (h : vs.length < n) : (partV vs n).set vs.length u = partV (vs ++ [u]) n := by
  unfold partV
  rw [List.set_append_right _ _ (Nat.le_refl _), Nat.sub_self, show n - vs.length = (n - (vs ++ [u]).length) + 1 by simp; omega, List.replicate_succ, List.set_cons_zero]
  simp
theorem partV_length (vs : List Value) (n : Nat) (h : vs.length ≤ n) : (partV vs n).length = n := by unfold partV; simp; omega
theorem partV_all (vs : List Value) (n : Nat) (h : vs.length = n) : partV vs n = vs := by unfold partV; simp [h]
theorem partV_zero (n : Nat) : (madeCells #[Value.slice none 0 0] n).toList = partV [] n := by
  rw [toList_madeCells_one]; simp [partV]
theorem all_idx {xss : List (List Nat)} {p : List Nat → Prop} (h : ∀ j (hj : j < xss.length), p xss[j]) : ∀ xs ∈ xss, p xs := fun s hs => by
  obtain ⟨j, hj⟩ := List.mem_iff_getElem?.1 hs
  obtain ⟨h3, rfl⟩ := List.getElem?_eq_some_iff.1 hj
  exact h j h3
end Go.Proofs.Ytmpmnhnobgidoaa
