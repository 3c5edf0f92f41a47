/- Words: the text of a drive. -/
import Derived.Test.YtimckchoekkkfaaDoorHFA
import Derived.Test.YtimckchoekkkfaaDoorTN
namespace Go.Proofs.YtimckchoekkkfaaDoor
set_option linter.unusedSimpArgs false
set_option linter.unusedVariables false
open Go.RowKit Go.Fl Go.Lib Go.Tx

theorem decB_small (n : Nat) : (⟨(Lib.decDigits n).toArray⟩ : ByteArray) = decB (n : Int) := by unfold decB; rw [itoa_nonneg]
theorem decB_le {n : Int} (h0 : 0 ≤ n) (h1 : n ≤ 4) : (decB n).size ≤ 21 := (decB_size n h0 (by omega)).2
def driveB (i d r l m s c e : Nat) (st : Int) (sp pi en : Nat) : ByteArray := textB [i, d, r, l, m, s, c, e] ++ ⟨#[59]⟩ ++ decB st ++ ⟨#[59]⟩ ++ textB [sp, pi, en]
theorem RF_top8 (w : World) (k : Nat) (hk : k = w.heap.size) (i d r l m s c e : Nat) (t : TypeId) : RF (w.alloc (.cells #[.float .f32 i, .float .f32 d, .float .f32 r, .float .f32 l, .float .f32 m, .float .f32 s, .float .f32 c, .float .f32 e] t)) (.slice (some ⟨k, 0, none⟩) 8 8) [i, d, r, l, m, s, c, e] := by
  have h := RF_top w k hk [i, d, r, l, m, s, c, e] t (by simp)
  simp only [List.map_cons, List.map_nil, List.length_cons, List.length_nil] at h
  exact h
theorem RF_drew {w : World} {v : Value} {xs : List Nat} (h : RF w v xs) : RF w.drew v xs := h
theorem Below_drewT {B : Nat} {a w : World} (h : Below B a w) : Below B a w.drew := below_drewN h 1
end Go.Proofs.YtimckchoekkkfaaDoor
