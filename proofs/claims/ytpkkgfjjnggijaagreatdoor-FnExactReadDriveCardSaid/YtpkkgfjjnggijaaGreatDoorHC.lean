/- Walks: the texts of lists of numbers. -/
import Derived.Test.YtpkkgfjjnggijaaGreatDoorHB
import Derived.Test.YtpkkgfjjnggijaaGreatDoorC
namespace Go.Proofs.YtpkkgfjjnggijaaGreatDoor
set_option linter.unusedSimpArgs false
set_option linter.unusedVariables false
open Go.RowKit Go.Fl Go.Lib

def joinH (xs : List Nat) : List UInt8 := Lib.join (xs.map fun x => hex8 (cn .f32 x)) [44]
def textB (xs : List Nat) : ByteArray := if xs = [] then ⟨#[110, 111, 110, 101]⟩ else ⟨(joinH xs).toArray⟩
theorem joinH_one (x : Nat) : joinH [x] = hex8 (cn .f32 x) := by unfold joinH; rw [List.map_singleton, join_one]
theorem joinH_succ (xs : List Nat) (k : Nat) (h0 : 1 ≤ k) (h : k < xs.length) : joinH (xs.take (k + 1)) = joinH (xs.take k) ++ (44 :: hex8 (cn .f32 xs[k])) := by
  cases xs with
  | nil => simp at h
  | cons x r =>
    obtain ⟨j, rfl⟩ : ∃ j, k = j + 1 := ⟨k - 1, by omega⟩
    have hj : j < r.length := by simpa using h
    unfold joinH
    simp only [List.take_succ_cons, List.map_cons, join_cons, List.getElem_cons_succ]
    rw [List.map_take, joinTail_take_succ [44] _ j (hex8 (cn .f32 r[j])) (by simp [hj]), List.map_take]
    simp
theorem joinH_len (xs : List Nat) : ∀ k, 1 ≤ k → k ≤ xs.length → (joinH (xs.take k)).length = 9 * k - 1
  | 0, h, _ => by omega
  | 1, _, h => by
    cases xs with
    | nil => simp at h
    | cons x r => simp [joinH_one, hex8_size]
  | k + 2, _, h => by
    rw [joinH_succ xs (k + 1) (by omega) (by omega), List.length_append, joinH_len xs (k + 1) (by omega) (by omega), List.length_cons, hex8_size]
    omega
theorem textB_size (xs : List Nat) : (textB xs).size ≤ 9 * xs.length + 4 := by
  unfold textB
  split
  · show 4 ≤ _; omega
  · rename_i h
    have hl : 1 ≤ xs.length := by
      cases xs with
      | nil => exact absurd rfl h
      | cons x r => simp
    have := joinH_len xs xs.length hl (Nat.le_refl _)
    rw [List.take_length] at this
    rw [size_mk, this]
    omega
theorem hexB_is (x : Nat) : hexB x = ⟨(hex8 (cn .f32 x)).toArray⟩ := rfl
theorem hexB_size (x : Nat) : (hexB x).size = 8 := by rw [hexB_is, size_mk, hex8_size]
end Go.Proofs.YtpkkgfjjnggijaaGreatDoor
