/- Cycles that came in, as a list. -/
import Derived.Test.YtmpajgpnbiaoiaaE
import Derived.Test.YtmpajgpnbiaoiaaP
namespace Go.Proofs.Ytmpajgpnbiaoiaa
set_option linter.unusedSimpArgs false
set_option linter.unusedVariables false
open Go.ChangeShapes Go.WideShapes Go.ChangeAt Go.RowKit Go.Joins Go.Deep Go.Fl

/-- A slice of cycles, as it came in. -/
def RCw (w : World) (v : Value) (cs : List Cyc) : Prop := ∃ p cap, v = .slice p cs.length cap ∧ cs.length ≤ 9223372036854775807 ∧ (cs.length = 0 ∨ ∃ b off, p = some ⟨b, off, none⟩ ∧ ∀ j u, (cycCells cs)[j]? = some u → w.cell? ⟨b, off + j, none⟩ = some u)
theorem RC_of_w {w : World} {v : Value} {cs : List Cyc} (h : RCw w v cs) (hl : cs.length ≤ 1048576) : RC w v cs := by
  obtain ⟨p, cap, rfl, -, hc⟩ := h
  exact ⟨p, cap, rfl, by omega, hc⟩
theorem open_RCl {H : Type} {enc : TypeId × Value → H} {w : World} {r : Reach} {b0 base : Nat} {spare : Nat → Bool} {held : Bool} {v : Value} {d : DataW H} {p : List MemPlace}
    (hv : Value.okWide Try.prog w r b0 53 v) (h : DataW.Trod enc Try.prog w base spare held 53 v d p) : ∃ cs : List Cyc, RCw w v cs := by
  obtain ⟨n, C, ad, cap, rfl, hn, hc⟩ := open_RC hv h
  refine ⟨(List.range n).map fun k => ⟨(C k).1, (C k).2.1, (C k).2.2⟩, ad, cap, by simp, by simpa using hn, ?_⟩
  rcases hc with h0 | ⟨b, off, rfl, hc⟩
  · left; simp [h0]
  · right
    refine ⟨b, off, rfl, fun j u hj => ?_⟩
    have hl := cycCells_length ((List.range n).map fun k => (⟨(C k).1, (C k).2.1, (C k).2.2⟩ : Cyc))
    simp only [List.length_map, List.length_range] at hl
    have hjl : j < n * 3 := by rw [← hl]; exact (List.getElem?_eq_some_iff.1 hj).1
    obtain ⟨h0, h1, h2⟩ := cycCells_at ((List.range n).map fun k => (⟨(C k).1, (C k).2.1, (C k).2.2⟩ : Cyc)) (j / 3) (by simp; omega)
    obtain ⟨g0, g1, g2⟩ := hc (j / 3) (by omega)
    simp only [List.getElem_map, List.getElem_range] at h0 h1 h2
    rcases (show j = j / 3 * 3 ∨ j = j / 3 * 3 + 1 ∨ j = j / 3 * 3 + 2 by omega) with e | e | e
    · rw [← e] at h0 g0; rw [h0] at hj; cases hj; exact g0
    · rw [← e] at h1; rw [h1] at hj; cases hj; rw [Nat.add_assoc, ← e] at g1; exact g1
    · rw [← e] at h2; rw [h2] at hj; cases hj; rw [Nat.add_assoc, ← e] at g2; exact g2
end Go.Proofs.Ytmpajgpnbiaoiaa
