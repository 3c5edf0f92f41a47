/- Opening a list of whole numbers. -/
import Derived.Test.YtpelhdohomjdpaaCI
import Derived.Test.YtpelhdohomjdpaaP
namespace Go.Proofs.Ytpelhdohomjdpaa
set_option linter.unusedSimpArgs false
set_option linter.unusedVariables false
open Go.ChangeShapes Go.WideShapes Go.ChangeAt Go.RowKit Go.Joins Go.Deep Go.Fl
def RIw (w : World) (v : Value) (xs : List Int) : Prop := ∃ p cap, v = .slice p xs.length cap ∧ (xs.length = 0 ∨ ∃ b off, p = some ⟨b, off, none⟩ ∧ ∀ j u, (xs.map (Value.int .i64))[j]? = some u → w.cell? ⟨b, off + j, none⟩ = some u)
theorem open_RI {H : Type} {enc : TypeId × Value → H} {w : World} {r : Reach} {b0 base : Nat} {spare : Nat → Bool} {held : Bool} {v : Value} {d : DataW H} {p : List MemPlace}
    (hv : Value.okWide Try.prog w r b0 25 v) (h : DataW.Trod enc Try.prog w base spare held 25 v d p) : ∃ xs : List Int, RIw w v xs := by
  obtain ⟨fuel, hf⟩ := h
  obtain ⟨a, len, cap, rfl⟩ := okWide_slice Try.underlying25 hv
  rcases open_slice1 Try.underlying25 (by kernel_rfl) hf with ⟨hcs, -⟩ | ⟨a', len', cap', m, n, V, D, Pl, hcs, -, hl, hm, hmm, -, hx⟩
  · simp only [Value.cells] at hcs
    simp at hcs
    obtain ⟨rfl, rfl, rfl⟩ := hcs
    exact ⟨[], none, 0, rfl, .inl rfl⟩
  · simp only [Value.cells] at hcs
    simp at hcs
    obtain ⟨rfl, rfl, rfl⟩ := hcs
    have hlm : len ≤ m := by rw [hmm]; split <;> omega
    have hV : ∀ i, i < len → ∃ b, V i = .int .i64 b := fun i hi => by
      obtain ⟨b, e, -⟩ := DataW.trod_int Try.underlying2 (hx i (by omega)).2
      simp at e
      exact ⟨b, e⟩
    refine ⟨(List.range len).map fun i => match V i with | .int _ b => b | _ => 0, some a', cap, by simp, ?_⟩
    by_cases h0 : len = 0
    · left; simp [h0]
    · right
      obtain ⟨b, off, spot⟩ := a'
      have hspot : spot = none := by simpa [Addr.add] using World.cell?_spot (hx 0 (by omega)).1
      subst hspot
      refine ⟨b, off, rfl, fun j u hj => ?_⟩
      simp only [List.map_map] at hj
      rw [List.getElem?_map] at hj
      by_cases hjl : j < len
      · rw [List.getElem?_range hjl] at hj
        simp only [Option.map_some, Function.comp] at hj
        obtain ⟨x, hxv⟩ := hV j hjl
        rw [hxv] at hj
        have h1 := (hx j (by omega)).1
        rw [hxv] at h1
        cases hj
        have e : (⟨b, off, none⟩ : Addr).add j = ⟨b, off + j, none⟩ := Go.WideShapes.add_plain _ _ _
        rw [← e]; exact h1
      · rw [List.getElem?_eq_none (by simpa using hjl)] at hj
        cases hj
end Go.Proofs.Ytpelhdohomjdpaa
