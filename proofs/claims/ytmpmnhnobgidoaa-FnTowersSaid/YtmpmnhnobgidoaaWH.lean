/- Walks: CrossingsOf of the reference. -/
import Derived.Test.YtmpmnhnobgidoaaWG
namespace Go.Proofs.Ytmpmnhnobgidoaa
set_option linter.unusedSimpArgs false
set_option linter.unusedVariables false
open Go.RowKit Go.Fl
theorem lowM_congr {r r' : Nat} {m : Int} {x : Nat} (h : cn .f32 r = cn .f32 r') : lowM r m x = lowM r' m x := by
  unfold lowM flt
  rw [od_congr rfl h]
theorem ge_is {a r R : Nat} {m : Int} {x : Nat} (h0 : 1 ≤ m) (h1 : m ≤ 12) (hx : fin .f32 x = true) (hr : fin .f32 R = true) (ha : cn .f32 a = multOf m x) (hR : cn .f32 r = cn .f32 R) :
    (FloatKind.f32.format.order a r == some .gt || FloatKind.f32.format.order a r == some .eq) = !lowM R m x := by
  have e : FloatKind.f32.format.order a r = FloatKind.f32.format.order (multOf m x) R := od_congr (by rw [ha]; exact (cn_fa _ _ _ _).symm) hR
  rw [e]
  exact lowM_ge h0 h1 hx hr
theorem lt_is {a r R : Nat} {m : Int} {x : Nat} (ha : cn .f32 a = multOf m x) (hR : cn .f32 r = cn .f32 R) : (FloatKind.f32.format.order a r == some .lt) = lowM R m x := by
  have e : FloatKind.f32.format.order a r = FloatKind.f32.format.order (multOf m x) R := od_congr (by rw [ha]; exact (cn_fa _ _ _ _).symm) hR
  rw [e]; rfl
theorem good_no1 {m d s : Nat} {ms : List Int} {xs : List Nat} (h : towerOk m d s = false ∨ 32 < ms.length ∨ 64 < xs.length ∨ allM ms = false ∨ finAll xs = false ∨ fin .f32 (rate m s) = false) : crossGood m d s ms xs = false := by
  unfold crossGood
  rcases h with h | h | h | h | h | h
  · rw [h]; simp
  · rw [show decide (ms.length ≤ 32) = false from decide_eq_false (by omega)]; simp
  · rw [show decide (xs.length ≤ 64) = false from decide_eq_false (by omega)]; simp
  · rw [h]; simp
  · rw [h]; simp
  · rw [h]; simp
theorem good_yes1 {m d s : Nat} {ms : List Int} {xs : List Nat} (h1 : towerOk m d s = true) (h2 : ms.length ≤ 32) (h3 : xs.length ≤ 64) (h4 : allM ms = true) (h5 : finAll xs = true) (h6 : fin .f32 (rate m s) = true) : crossGood m d s ms xs = true := by
  unfold crossGood
  rw [h1, h4, h5, h6]; simp; omega
theorem allM_no {ms : List Int} {k : Nat} (hk : k < ms.length) (h : inM ms[k] 1 12 = false) : allM ms = false := by
  unfold allM
  rw [List.all_eq_false]
  exact ⟨ms[k], List.getElem_mem hk, by rw [h]; decide⟩
theorem allM_yes {ms : List Int} (h : ∀ j (hj : j < ms.length), inM ms[j] 1 12 = true) : allM ms = true := by
  unfold allM
  rw [List.all_eq_true]
  intro x hx
  obtain ⟨j, hj, rfl⟩ := List.getElem_of_mem hx
  exact h j hj
theorem allM_get {ms : List Int} (h : allM ms = true) (j : Nat) (hj : j < ms.length) : 1 ≤ ms[j] ∧ ms[j] ≤ 12 := by
  unfold allM at h
  rw [List.all_eq_true] at h
  have := h _ (List.getElem_mem hj)
  unfold inM at this
  simpa using this
theorem finAll_no {xs : List Nat} {k : Nat} (hk : k < xs.length) (h : fin .f32 xs[k] = false) : finAll xs = false := by
  unfold finAll
  rw [List.all_eq_false]
  exact ⟨xs[k], List.getElem_mem hk, by rw [h]; decide⟩
theorem finAll_yes {xs : List Nat} (h : ∀ j (hj : j < xs.length), fin .f32 xs[j] = true) : finAll xs = true := by
  unfold finAll
  rw [List.all_eq_true]
  intro x hx
  obtain ⟨j, hj, rfl⟩ := List.getElem_of_mem hx
  exact h j hj
theorem finAll_get {xs : List Nat} (h : finAll xs = true) (j : Nat) (hj : j < xs.length) : fin .f32 xs[j] = true := by
  unfold finAll at h
  rw [List.all_eq_true] at h
  exact h _ (List.getElem_mem hj)
theorem crossRow_succ (r : Nat) (m : Int) (i : Nat) (xs : List Nat) (k : Nat) (h1 : k < xs.length) (h2 : k + 1 < xs.length) : crossRow r m i xs (k + 1) = crossRow r m i xs k ++ (if lowM r m xs[k] != lowM r m xs[k + 1] then [[(i : Int), (k : Int)]] else []) := by
  show _ ++ _ = _
  rw [List.getElem?_eq_getElem h1, List.getElem?_eq_getElem h2]; rfl
theorem crossTo_succ (r : Nat) (ms : List Int) (xs : List Nat) (i : Nat) (h : i < ms.length) : crossTo r ms xs (i + 1) = crossTo r ms xs i ++ crossRow r ms[i] i xs (xs.length - 1) := by
  show _ ++ _ = _
  rw [List.getElem?_eq_getElem h]; rfl
end Go.Proofs.Ytmpmnhnobgidoaa
