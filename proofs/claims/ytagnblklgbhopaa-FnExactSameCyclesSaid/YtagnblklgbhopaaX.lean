/- Cycles that came in, as a list, with the bounds of their bits. -/
import Derived.Test.YtagnblklgbhopaaQ
import Derived.Test.YtagnblklgbhopaaW
namespace Go.Proofs.Ytagnblklgbhopaa
set_option linter.unusedSimpArgs false
set_option linter.unusedVariables false
open Go.ChangeShapes Go.WideShapes Go.ChangeAt Go.RowKit Go.Joins Go.Deep Go.Fl

section
variable {H : Type} {enc : TypeId × Value → H} {P : Program}
theorem trod_float_lt {w : World} {base : Nat} {spare : Nat → Bool} {held : Bool} {fuel : Nat} {t : TypeId} {cs : List Value} {x : DataW H × List MemPlace}
    (ht : P.underlying t = some (.float .f32)) (h : DataW.trod enc P w base spare held fuel t cs = some x) : ∃ b, cs = [.float .f32 b] ∧ b < 4294967296 := by
  cases fuel with
  | zero => simp [DataW.trod] at h
  | succ n =>
    unfold DataW.trod at h
    rw [ht] at h
    split at h <;> try (simp_all; done)
    rename_i heq
    simp only [Option.some.injEq, TypeDesc.float.injEq] at heq
    subst heq
    split at h
    · rename_i hh
      obtain ⟨rfl, hw⟩ := hh
      exact ⟨_, rfl, by simpa [Lit.wf] using hw⟩
    · cases h
end
set_option maxRecDepth 100000 in
theorem trod_cyc_lt {H : Type} {enc : TypeId × Value → H} {w : World} {base : Nat} {spare : Nat → Bool} {held : Bool} {fuel : Nat} {cs : List Value} {x : DataW H × List MemPlace}
    (h : DataW.trod enc Try.prog w base spare held fuel 56 cs = some x) : ∃ (lo hi : Nat) (wh : Bool), cs = [.float .f32 lo, .float .f32 hi, .bool wh] ∧ lo < 4294967296 ∧ hi < 4294967296 := by
  obtain ⟨y0, y1, y2, n, -, hl, h0, h1, h2⟩ := trod_struct3 Try.underlying56 h
  have hl' : cs.length = 3 := hl.trans (by kernel_rfl)
  have k1 : Try.prog.cellsOf 29 = 1 := by kernel_rfl
  have k2 : Try.prog.cellsOf 4 = 1 := by kernel_rfl
  simp only [k1, k2] at h0 h1 h2
  match cs, hl' with
  | [a, b, c], _ =>
    obtain ⟨lo, e0, b0⟩ := trod_float_lt Try.underlying29 h0
    obtain ⟨hi, e1, b1⟩ := trod_float_lt Try.underlying29 h1
    obtain ⟨wh, e2, -⟩ := DataW.trod_bool Try.underlying4 h2
    simp at e0 e1 e2
    exact ⟨lo, hi, wh, by rw [e0, e1, e2], b0, b1⟩
set_option maxRecDepth 100000 in
/-- Cycles that came in. -/
theorem open_RC_lt {H : Type} {enc : TypeId × Value → H} {w : World} {r : Reach} {b0 base : Nat} {spare : Nat → Bool} {held : Bool} {v : Value} {d : DataW H} {p : List MemPlace}
    (hv : Value.okWide Try.prog w r b0 22 v) (h : DataW.Trod enc Try.prog w base spare held 22 v d p) : ∃ (n : Nat) (C : Nat → Nat × Nat × Bool) (ad : Option Addr) (cap : Nat), v = .slice ad n cap ∧ n ≤ 9223372036854775807 ∧
      (n = 0 ∨ ∃ b off, ad = some ⟨b, off, none⟩ ∧ ∀ k, k < n → w.cell? ⟨b, off + k * 3, none⟩ = some (.float .f32 (C k).1) ∧ w.cell? ⟨b, off + k * 3 + 1, none⟩ = some (.float .f32 (C k).2.1) ∧ w.cell? ⟨b, off + k * 3 + 2, none⟩ = some (.bool (C k).2.2)) ∧ ∀ k, k < n → (C k).1 < 4294967296 ∧ (C k).2.1 < 4294967296 := by
  obtain ⟨fuel, hf⟩ := h
  obtain ⟨a, len, cap, rfl⟩ := okWide_slice Try.underlying22 hv
  rcases open_slice Try.underlying22 hf with ⟨hcs, -⟩ | ⟨a', len', cap', m, n, D, Pl, hcs, -, hl, hm, hmm, -, hx⟩
  · simp only [Value.cells] at hcs
    simp at hcs
    obtain ⟨rfl, rfl, rfl⟩ := hcs
    exact ⟨0, fun _ => (0, 0, false), none, 0, rfl, by omega, .inl rfl, fun k hk => absurd hk (by omega)⟩
  · simp only [Value.cells] at hcs
    simp at hcs
    obtain ⟨rfl, rfl, rfl⟩ := hcs
    have hlm : len ≤ m := by rw [hmm]; split <;> omega
    have k3 : Try.prog.cellsOf 56 = 3 := by kernel_rfl
    rw [k3] at hx
    have hV : ∀ i, ∃ c : Nat × Nat × Bool, i < len → w.cell? (a'.add (i * 3)) = some (.float .f32 c.1) ∧ w.cell? ((a'.add (i * 3)).add 1) = some (.float .f32 c.2.1) ∧ w.cell? ((a'.add (i * 3)).add 2) = some (.bool c.2.2) ∧ c.1 < 4294967296 ∧ c.2.1 < 4294967296 := fun i => by
      by_cases hi : i < len
      · obtain ⟨cs', h1, h2⟩ := hx i (by omega)
        obtain ⟨lo, hi', wh, rfl, l1, l2⟩ := trod_cyc_lt h2
        obtain ⟨-, -, hc⟩ := World.cells?_some h1
        refine ⟨(lo, hi', wh), fun _ => ⟨?_, ?_, ?_, l1, l2⟩⟩
        · have := hc 0 (by omega)
          simpa [Addr.add] using this
        · exact hc 1 (by omega)
        · exact hc 2 (by omega)
      · exact ⟨(0, 0, false), fun h => absurd h hi⟩
    obtain ⟨C, hC⟩ := Classical.axiomOfChoice hV
    refine ⟨len, C, some a', cap, rfl, by unfold maxLen at hm; omega, ?_, fun k hk => ⟨(hC k hk).2.2.2.1, (hC k hk).2.2.2.2⟩⟩
    by_cases h0 : len = 0
    · exact .inl h0
    · right
      obtain ⟨b, off, spot⟩ := a'
      have hspot : spot = none := by simpa [Addr.add] using World.cell?_spot (hC 0 (by omega)).1
      subst hspot
      refine ⟨b, off, rfl, fun k hk => ?_⟩
      have := hC k hk
      simp only [Go.WideShapes.add_plain] at this
      exact ⟨this.1, this.2.1, this.2.2.1⟩
theorem open_RCl_lt {H : Type} {enc : TypeId × Value → H} {w : World} {r : Reach} {b0 base : Nat} {spare : Nat → Bool} {held : Bool} {v : Value} {d : DataW H} {p : List MemPlace}
    (hv : Value.okWide Try.prog w r b0 22 v) (h : DataW.Trod enc Try.prog w base spare held 22 v d p) : ∃ cs : List Cyc, RCw w v cs ∧ ∀ c ∈ cs, CycWf c := by
  obtain ⟨n, C, ad, cap, rfl, hn, hc, hwf⟩ := open_RC_lt hv h
  refine ⟨(List.range n).map fun k => ⟨(C k).1, (C k).2.1, (C k).2.2⟩, ⟨ad, cap, by simp, by simpa using hn, ?_⟩, fun c hc => by
    obtain ⟨k, hk, rfl⟩ := List.mem_map.1 hc
    exact hwf k (List.mem_range.1 hk)⟩
  rcases hc with h0 | ⟨b, off, rfl, hc⟩
  · left; simp [h0]
  · right
    refine ⟨b, off, rfl, fun j u hj => ?_⟩
    have hl := cycCells_length ((List.range n).map fun k => (⟨(C k).1, (C k).2.1, (C k).2.2⟩ : Cyc))
    simp only [List.length_map, List.length_range] at hl
    have hjl : j < n * 3 := by rw [← hl]; exact (List.getElem?_eq_some_iff.1 hj).1
    obtain ⟨h0, h1, h2⟩ := cycCells_at ((List.range n).map fun k => (⟨(C k).1, (C k).2.1, (C k).2.2⟩ : Cyc)) (j / 3) (by simp; omega)
    obtain ⟨g0, g1, g2⟩ := hc (j / 3) (by omega)
    simp only [List.getElem_map, List.getElem_range] at h0 h1 h2
    rcases (show j = j / 3 * 3 ∨ j = j / 3 * 3 + 1 ∨ j = j / 3 * 3 + 2 by omega) with e | e | e
    · rw [← e] at h0 g0; rw [h0] at hj; cases hj; exact g0
    · rw [← e] at h1; rw [h1] at hj; cases hj; rw [Nat.add_assoc, ← e] at g1; exact g1
    · rw [← e] at h2; rw [h2] at hj; cases hj; rw [Nat.add_assoc, ← e] at g2; exact g2
end Go.Proofs.Ytagnblklgbhopaa
