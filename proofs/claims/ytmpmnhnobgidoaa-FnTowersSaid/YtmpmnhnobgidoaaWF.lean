/- Walks: lists of lists of whole numbers: held against each other, marked, appended to. -/
import Derived.Test.YtmpmnhnobgidoaaCI
import Derived.Test.YtmpmnhnobgidoaaR
namespace Go.Proofs.Ytmpmnhnobgidoaa
set_option linter.unusedSimpArgs false
set_option linter.unusedVariables false
open Go.RowKit Go.Fl

/-- Rows that are read as lists of whole numbers. -/
def RII (w : World) (v : Value) (us : List Value) (xss : List (List Int)) : Prop := Sl w v us.length us ∧ us.length = xss.length ∧ ∀ i (h1 : i < us.length) (h2 : i < xss.length), RI w us[i] xss[i]
/-- .. that are a call's own, their blocks in S .. T. -/
structure OII (S T : Nat) (w : World) (u : Value) (us : List Value) (xss : List (List Int)) : Prop where
  len : us.length = xss.length
  row : w.ownsRow S 32 1 u us.length us
  inner : ∀ i (h1 : i < us.length) (h2 : i < xss.length), OI S w us[i] xss[i]
  apart : ∀ i j (h1 : i < us.length) (h2 : j < us.length), i ≠ j → Dis us[i] us[j]
  out : ∀ i (h1 : i < us.length), Dis u us[i]
  top : (∀ k, u.ownBlock = some k → k < T) ∧ ∀ i (h1 : i < us.length) k, us[i].ownBlock = some k → k < T
theorem OII.below {S T : Nat} {w w' : World} {u : Value} {us : List Value} {xss : List (List Int)} (h : OII S T w u us xss) (hb : Below w.heap.size w w') : OII S T w' u us xss :=
  ⟨h.len, ownsRow_below h.row hb, fun i h1 h2 => OI_below (h.inner i h1 h2) hb, h.apart, h.out, h.top⟩
theorem OII.read {S T : Nat} {w : World} {u : Value} {us : List Value} {xss : List (List Int)} (h : OII S T w u us xss) (hl : us.length ≤ 1048576) (hi : ∀ xs ∈ xss, xs.length ≤ 1048576) : RII w u us xss :=
  ⟨Sl_of_own h.row (by omega), h.len, fun i h1 h2 => RI_of_own (h.inner i h1 h2) (by have := hi _ (List.getElem_mem h2); omega)⟩
/-- OnlyI blocks in S .. T are other ones, or new. -/
structure OnlyI (S T : Nat) (w w' : World) : Prop where
  os : w'.os = w.os
  tape : w'.tape = w.tape
  output : w'.output = w.output
  size : w.heap.size ≤ w'.heap.size
  block : ∀ k, k < w.heap.size → (k < S ∨ T ≤ k) → w'.heap[k]? = w.heap[k]?
theorem OnlyI.refl (S T : Nat) (w : World) : OnlyI S T w w := ⟨rfl, rfl, rfl, Nat.le_refl _, fun _ _ _ => rfl⟩
theorem OnlyI.trans {S T : Nat} {w w1 w2 : World} (h : OnlyI S T w w1) (k : OnlyI S T w1 w2) : OnlyI S T w w2 :=
  ⟨k.os.trans h.os, k.tape.trans h.tape, k.output.trans h.output, Nat.le_trans h.size k.size, fun i hi ho => (k.block i (Nat.lt_of_lt_of_le hi h.size) ho).trans (h.block i hi ho)⟩
theorem OnlyI.of_grown {S T : Nat} {w w' : World} {r : Option Nat} (h : w.grownBy w' r) (hr : ∀ k, r = some k → S ≤ k ∧ k < T) : OnlyI S T w w' :=
  ⟨h.os, h.tape, h.output, h.size, fun i hi ho => h.block i hi fun e => by have := hr i e.symm; omega⟩
theorem OnlyI.below {S T B : Nat} {w w' : World} (h : OnlyI S T w w') (hB : B ≤ S) (hw : B ≤ w.heap.size) : Below B w w' :=
  ⟨h.os, h.tape, h.output, h.size, fun i hi => h.block i (by omega) (.inl (by omega))⟩
theorem OnlyI.own {S T B : Nat} {w w' : World} {v : Value} {n : Nat} {cs : List Value} {e : TypeId} {s : Nat} (h : OnlyI S T w w') (ho : w.ownsRow B e s v n cs) (hv : ∀ k, v.ownBlock = some k → k < S ∨ T ≤ k) : w'.ownsRow B e s v n cs := by
  obtain ⟨hlen, hc⟩ := id ho
  refine ⟨hlen, ?_⟩
  rcases hc with hc | ⟨g, cap, cur, rfl, hB, hg, rest⟩
  · exact .inl hc
  · exact .inr ⟨g, cap, cur, rfl, hB, (h.block g (lt_of_block hg) (hv g rfl)).trans hg, rest⟩
theorem OII.only {S T S' T' : Nat} {w w' : World} {u : Value} {us : List Value} {xss : List (List Int)} (h : OII S T w u us xss) (ho : OnlyI S' T' w w') (hd : T ≤ S' ∨ T' ≤ S) : OII S T w' u us xss := by
  refine ⟨h.len, ho.own h.row fun k hk => ?_, fun i h1 h2 => ho.own (h.inner i h1 h2) fun k hk => ?_, h.apart, h.out, h.top⟩
  · have := h.top.1 k hk
    have := (h.row.lt k hk).1
    omega
  · have := h.top.2 i h1 k hk
    have := (World.ownsRow.lt (h.inner i h1 h2) k hk).1
    omega
/-- How many numbers the first rows hold. -/
def totI (xss : List (List Int)) : Nat → Nat
  | 0 => 0
  | k + 1 => totI xss k + (xss[k]?.getD []).length
theorem totI_succ (xss : List (List Int)) (k : Nat) (hk : k < xss.length) : totI xss (k + 1) = totI xss k + xss[k].length := by
  show _ + _ = _
  rw [List.getElem?_eq_getElem hk]; rfl
theorem totI_mono (xss : List (List Int)) (n k : Nat) (hk : k ≤ n) : totI xss k ≤ totI xss n := by
  have : ∀ j, totI xss k ≤ totI xss (k + j) := fun j => by
    induction j with
    | zero => exact Nat.le_refl _
    | succ j ih => show _ ≤ totI xss (k + j) + _; omega
  have := this (n - k)
  rwa [show k + (n - k) = n by omega] at this
/-- The rows, marked. -/
def markedI (xss : List (List Int)) : List (List Int) := (List.range xss.length).map fun i => marksI (xss[i]?.getD []).length (1 + totI xss i)
theorem markedI_length (xss : List (List Int)) : (markedI xss).length = xss.length := by simp [markedI]
theorem markedI_get (xss : List (List Int)) (i : Nat) (h : i < (markedI xss).length) (h2 : i < xss.length) : (markedI xss)[i] = marksI xss[i].length (1 + totI xss i) := by
  simp [markedI, h2]
/-- A row more at the end. -/
theorem OII.snoc {S T T' : Nat} {w w' : World} {u u' : Value} {us : List Value} {xss : List (List Int)} {ui : Value} {xs : List Int} (h : OII S T w u us xss) (hrow : w'.ownsRow S 32 1 u' (us ++ [ui]).length (us ++ [ui]))
    (hin : ∀ i (h1 : i < us.length) (h2 : i < xss.length), OI S w' us[i] xss[i]) (hui : OI S w' ui xs) (hap : ∀ i (h1 : i < us.length), Dis us[i] ui) (hou : ∀ i (h1 : i < us.length), Dis u' us[i]) (hou' : Dis u' ui) (hT : w'.heap.size ≤ T') : OII S T' w' u' (us ++ [ui]) (xss ++ [xs]) := by
  have hl := h.len
  refine ⟨by simp [hl], hrow, fun i h1 h2 => ?_, fun i j h1 h2 hne => ?_, fun i h1 => ?_, ⟨fun k hk => Nat.lt_of_lt_of_le (hrow.lt k hk).2 hT, fun i h1 k hk => ?_⟩⟩
  · by_cases e : i < us.length
    · rw [List.getElem_append_left e, List.getElem_append_left (by omega)]; exact hin i e (by omega)
    · have e' : i = us.length := by simp at h1; omega
      subst e'
      simp only [List.getElem_append_right (Nat.le_refl _), Nat.sub_self, List.getElem_cons_zero]
      rw [List.getElem_append_right (by omega)]
      simp only [hl, Nat.sub_self, List.getElem_cons_zero]
      exact hui
  · simp only [List.length_append, List.length_cons, List.length_nil] at h1 h2
    by_cases e1 : i < us.length <;> by_cases e2 : j < us.length
    · rw [List.getElem_append_left e1, List.getElem_append_left e2]; exact h.apart i j e1 e2 hne
    · obtain rfl : j = us.length := by omega
      rw [List.getElem_append_left e1]
      simp only [List.getElem_append_right (Nat.le_refl _), Nat.sub_self, List.getElem_cons_zero]
      exact hap i e1
    · obtain rfl : i = us.length := by omega
      rw [List.getElem_append_left e2]
      simp only [List.getElem_append_right (Nat.le_refl _), Nat.sub_self, List.getElem_cons_zero]
      exact (hap j e2).symm
    · omega
  · simp only [List.length_append, List.length_cons, List.length_nil] at h1
    by_cases e1 : i < us.length
    · rw [List.getElem_append_left e1]; exact hou i e1
    · obtain rfl : i = us.length := by omega
      simp only [List.getElem_append_right (Nat.le_refl _), Nat.sub_self, List.getElem_cons_zero]
      exact hou'
  · simp only [List.length_append, List.length_cons, List.length_nil] at h1
    by_cases e1 : i < us.length
    · rw [List.getElem_append_left e1] at hk
      exact Nat.lt_of_lt_of_le (World.ownsRow.lt (hin i e1 (by omega)) k hk).2 hT
    · obtain rfl : i = us.length := by omega
      simp only [List.getElem_append_right (Nat.le_refl _), Nat.sub_self, List.getElem_cons_zero] at hk
      exact Nat.lt_of_lt_of_le (World.ownsRow.lt hui k hk).2 hT
end Go.Proofs.Ytmpmnhnobgidoaa
