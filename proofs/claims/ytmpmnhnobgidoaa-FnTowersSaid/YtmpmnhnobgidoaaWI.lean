/- Walks: CrossingsOf of the reference. -/
import Derived.Test.YtmpmnhnobgidoaaWH
namespace Go.Proofs.Ytmpmnhnobgidoaa
set_option linter.unusedSimpArgs false
set_option linter.unusedVariables false
open Go.RowKit Go.Fl
theorem OII_empty (B : Nat) (w : World) (k : Nat) (hk : k = w.heap.size) (hB : B ≤ w.heap.size) (t : TypeId) (ht : t = 32) (T : Nat) (hT : w.heap.size < T) : OII B T (w.alloc (.cells #[] t)) (.slice (some ⟨k, 0, none⟩) 0 0) [] [] := by
  subst hk ht
  refine ⟨rfl, World.ownsRow_lit w #[] 0 hB (by unfold maxLen; omega) rfl, fun i h => absurd h (Nat.not_lt_zero _), fun i j h => absurd h (Nat.not_lt_zero _), fun i h => absurd h (Nat.not_lt_zero _), fun k hk => ?_, fun i h => absurd h (Nat.not_lt_zero _)⟩
  simp only [Value.ownBlock, Option.some.injEq] at hk
  omega
theorem cellV_top1 (w : World) (k : Nat) (hk : k = w.heap.size) (v : Value) (t : TypeId) : (w.alloc (.cells #[v] t)).cell? ⟨k, 0, none⟩ = some v := by
  subst hk
  rw [cell_of_row _ _ _ _ t (0, 0) (heap_alloc_new w _)]; rfl
theorem OI_two (B : Nat) (w : World) (k : Nat) (hk : k = w.heap.size) (hB : B ≤ w.heap.size) (t : TypeId) (ht : t = 2) (a b : Int) : OI B (w.alloc (.cells #[.int .i64 a, .int .i64 b] t)) (.slice (some ⟨k, 0, none⟩) 2 2) [a, b] := by
  subst hk ht
  exact World.ownsRow_lit w #[.int .i64 a, .int .i64 b] 2 hB (by unfold maxLen; omega) rfl
end Go.Proofs.Ytmpmnhnobgidoaa
