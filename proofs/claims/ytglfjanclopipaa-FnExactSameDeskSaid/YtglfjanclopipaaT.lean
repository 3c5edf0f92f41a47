/- Plain laws: two numbers that are equal and of one sign have the same bits. -/
import Derived.Test.YtglfjanclopipaaA
namespace Go.Proofs.Ytglfjanclopipaa
set_option linter.unusedSimpArgs false
set_option linter.unusedVariables false
open Go.RowKit Go.Fl

theorem canon {B m n a b : Nat} (h : m * 2 ^ a = n * 2 ^ b) (h1 : m < 2 * B) (h2 : n < 2 * B) (c1 : a = 0 ∨ B ≤ m) (c2 : b = 0 ∨ B ≤ n) : m = n ∧ a = b := by
  have key : ∀ {m n a b : Nat}, m * 2 ^ a = n * 2 ^ b → m < 2 * B → (b = 0 ∨ B ≤ n) → ¬ a < b := by
    intro m n a b h h1 c2 hab
    obtain ⟨d, rfl⟩ : ∃ d, b = a + 1 + d := ⟨b - a - 1, by omega⟩
    have e : n * 2 ^ (a + 1 + d) = n * 2 ^ (d + 1) * 2 ^ a := by rw [Nat.mul_assoc, ← Nat.pow_add]; congr 2; omega
    rw [e] at h
    have h' := Nat.eq_of_mul_eq_mul_right (Nat.two_pow_pos a) h
    have hn : B ≤ n := by omega
    have hp : 2 ≤ 2 ^ (d + 1) := by rw [Nat.pow_succ]; have := Nat.two_pow_pos d; omega
    have := Nat.mul_le_mul hn hp
    omega
  have hab : a = b := by
    have := key h h1 c2
    have := key h.symm h2 c1
    omega
  subst hab
  exact ⟨Nat.eq_of_mul_eq_mul_right (Nat.two_pow_pos a) h, rfl⟩

/-- The sign bit. -/
def sgn (x : Nat) : Bool := x / 2147483648 % 2 == 1
/-- What a finite number's bits are, from its sign, its magnitude and its place. -/
theorem single_form (x : Nat) {s : Bool} {m : Nat} {i : Int} (h : Ieee.single.read x = .number s m i) :
    s = sgn x ∧ ∃ a : Nat, i = (a : Int) - 149 ∧ m < 2 * 8388608 ∧ (a = 0 ∨ 8388608 ≤ m) ∧ x % 2147483648 = a * 8388608 + m := by
  have e1 : Ieee.single.signWeight = 2147483648 := by decide
  have e2 : Ieee.single.binade = 8388608 := by decide
  have e3 : Ieee.single.infRung = 2139095040 := by decide
  have e4 : Ieee.single.leastPlace = -149 := by decide
  unfold Ieee.Format.read at h
  rw [e1, e2, e3, e4] at h
  simp only at h
  have hr : x % 2147483648 < 2147483648 := Nat.mod_lt _ (by decide)
  generalize hx : x % 2147483648 = r at h hr
  split at h
  · cases h
    exact ⟨rfl, 0, by omega, by omega, .inl rfl, by omega⟩
  · split at h
    · cases h
      refine ⟨rfl, r / 8388608 - 1, by omega, by omega, .inr (by omega), by omega⟩
    · split at h <;> cases h
theorem bits_of {x y : Nat} (hx : x < 4294967296) (hy : y < 4294967296) (h : x % 2147483648 = y % 2147483648) (hs : sgn x = sgn y) : x = y := by
  unfold sgn at hs
  have h1 : x / 2147483648 % 2 = y / 2147483648 % 2 := by
    rcases Nat.mod_two_eq_zero_or_one (x / 2147483648) with e | e <;> rcases Nat.mod_two_eq_zero_or_one (y / 2147483648) with f | f <;> simp_all
  omega
theorem single_inf (x : Nat) {s : Bool} (h : Ieee.single.read x = .infinity s) : s = sgn x ∧ x % 2147483648 = 2139095040 := by
  have e1 : Ieee.single.signWeight = 2147483648 := by decide
  have e2 : Ieee.single.binade = 8388608 := by decide
  have e3 : Ieee.single.infRung = 2139095040 := by decide
  unfold Ieee.Format.read at h
  rw [e1, e2, e3] at h
  simp only at h
  split at h
  · cases h
  · split at h
    · cases h
    · split at h
      · rename_i hh; cases h; exact ⟨rfl, hh⟩
      · cases h
theorem cmp_eq (c d : Int) : (compare c d = .eq) ↔ c = d := by
  simp only [compare, compareOfLessAndEq]
  split
  · simp; omega
  · split <;> simp_all
/-- Equal and of one sign: the same bits. -/
theorem bits_eq {x y : Nat} (hx : x < 4294967296) (hy : y < 4294967296) (he : feq .f32 x y = true) (hs : sgn x = sgn y) : x = y := by
  unfold feq Ieee.Format.order at he
  rw [show FloatKind.f32.format = Ieee.single from rfl] at he
  cases h1 : Ieee.single.read x <;> cases h2 : Ieee.single.read y <;> rw [h1, h2] at he <;> simp only [Ieee.Datum.order] at he
  case number.number s m i t n j =>
    obtain ⟨rfl, a, rfl, hm, ca, ea⟩ := single_form x h1
    obtain ⟨rfl, b, rfl, hn, cb, eb⟩ := single_form y h2
    simp only [beq_iff_eq, Option.some.injEq, cmp_eq] at he
    rw [← hs] at he
    have hmul : ∀ c d : Nat, Ieee.signed (sgn x) m c = Ieee.signed (sgn x) n d → m * 2 ^ c = n * 2 ^ d := by
      intro c d h
      unfold Ieee.signed at h
      rw [← Nat.shiftLeft_eq, ← Nat.shiftLeft_eq]
      split at h
      · have := Int.neg_inj.1 h; exact Int.ofNat_inj.1 this
      · exact Int.ofNat_inj.1 h
    have h3 := hmul _ _ he
    have h4 : m * 2 ^ a = n * 2 ^ b := by
      by_cases hab : a ≤ b
      · rw [show min ((a : Int) - 149) ((b : Int) - 149) = (a : Int) - 149 by omega, show ((a : Int) - 149 - ((a : Int) - 149)).toNat = 0 by omega, show ((b : Int) - 149 - ((a : Int) - 149)).toNat = b - a by omega, Nat.pow_zero, Nat.mul_one] at h3
        rw [h3, Nat.mul_assoc, ← Nat.pow_add, Nat.sub_add_cancel hab]
      · rw [show min ((a : Int) - 149) ((b : Int) - 149) = (b : Int) - 149 by omega, show ((b : Int) - 149 - ((b : Int) - 149)).toNat = 0 by omega, show ((a : Int) - 149 - ((b : Int) - 149)).toNat = a - b by omega, Nat.pow_zero, Nat.mul_one] at h3
        rw [← h3, Nat.mul_assoc, ← Nat.pow_add, Nat.sub_add_cancel (by omega)]
    obtain ⟨rfl, rfl⟩ := canon h4 hm hn ca cb
    exact bits_of hx hy (by rw [ea, eb]) hs
  case infinity.infinity =>
    obtain ⟨-, e1⟩ := single_inf x h1
    obtain ⟨-, e2⟩ := single_inf y h2
    exact bits_of hx hy (by rw [e1, e2]) hs
  case number.infinity t => cases t <;> simp at he
  case infinity.number s _ _ _ => cases s <;> simp at he
  all_goals simp at he
end Go.Proofs.Ytglfjanclopipaa
