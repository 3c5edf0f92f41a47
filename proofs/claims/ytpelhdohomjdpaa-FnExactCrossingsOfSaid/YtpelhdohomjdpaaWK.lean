/- Plain laws: how great the answer of CrossingsOf is. -/
import Derived.Test.YtpelhdohomjdpaaWJ
namespace Go.Proofs.Ytpelhdohomjdpaa
set_option linter.unusedSimpArgs false
set_option linter.unusedVariables false
open Go.RowKit Go.Fl
theorem crossRow_two (r : Nat) (m : Int) (i : Nat) (xs : List Nat) : ∀ k, ∀ row ∈ crossRow r m i xs k, row.length = 2
  | 0 => fun row h => by cases h
  | k + 1 => fun row h => by
    have ih := crossRow_two r m i xs k row
    unfold crossRow at h
    rcases List.mem_append.1 h with h | h
    · exact ih h
    · split at h
      · simp at h; subst h; rfl
      · cases h
theorem crossTo_two (r : Nat) (ms : List Int) (xs : List Nat) : ∀ i, ∀ row ∈ crossTo r ms xs i, row.length = 2
  | 0 => fun row h => by cases h
  | i + 1 => fun row h => by
    have ih := crossTo_two r ms xs i row
    unfold crossTo at h
    rcases List.mem_append.1 h with h | h
    · exact ih h
    · exact crossRow_two _ _ _ _ _ row h
theorem crossRes_facts (m d s : Nat) (ms : List Int) (xs : List Nat) : (crossRes m d s ms xs).length ≤ 2048 ∧ ∀ row ∈ crossRes m d s ms xs, row.length = 2 := by
  unfold crossRes
  split
  · rename_i h
    have hl : ms.length ≤ 32 ∧ xs.length ≤ 64 := by
      unfold crossGood at h
      simp only [Bool.and_eq_true, decide_eq_true_eq] at h
      omega
    exact ⟨Nat.le_trans (crossTo_len _ _ _ _) (Nat.mul_le_mul hl.1 hl.2), crossTo_two _ _ _ _⟩
  · exact ⟨Nat.zero_le _, fun row h => by cases h⟩
theorem totI_two (xss : List (List Int)) (h : ∀ row ∈ xss, row.length = 2) : ∀ k, totI xss k ≤ 2 * k
  | 0 => Nat.le_refl _
  | k + 1 => by
    have ih := totI_two xss h k
    show totI xss k + _ ≤ _
    by_cases hk : k < xss.length
    · rw [List.getElem?_eq_getElem hk]
      have := h _ (List.getElem_mem hk)
      simp only [Option.getD_some]
      omega
    · rw [List.getElem?_eq_none (by omega)]
      simp; omega
end Go.Proofs.Ytpelhdohomjdpaa
