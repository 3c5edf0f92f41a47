/- Floats: how far rounding goes. -/
import Derived.Test.YtmpmnhnobgidoaaZ
namespace Go.Fl
set_option linter.unusedSimpArgs false
set_option linter.unusedVariables false
open Go Go.RowKit

/-- What a rung stands for. -/
theorem rung_value (f : Ieee.Format) (neg : Bool) (a kept : Nat) (hk : kept ≤ 2 * f.binade) (hc : a = 0 ∨ f.binade ≤ kept) (hlt : a * f.binade + kept < f.infRung) :
    ∃ m e, f.read (f.word neg (a * f.binade + kept)) = .number neg m e ∧ f.leastPlace ≤ e ∧ m * 2 ^ (e - f.leastPlace).toNat = kept * 2 ^ a := by
  have hbp : 0 < f.binade := Nat.two_pow_pos _
  rw [read_word f neg _ (Nat.le_of_lt hlt)]
  by_cases h1 : kept < f.binade
  · have ha : a = 0 := by omega
    subst ha
    rw [Nat.zero_mul, Nat.zero_add, if_pos h1]
    exact ⟨_, _, rfl, by omega, by rw [Int.sub_self, Int.toNat_zero, Nat.pow_zero]⟩
  · rw [if_neg (by have := Nat.zero_le (a * f.binade); omega), if_pos hlt]
    by_cases h2 : kept < 2 * f.binade
    · have hdiv : (a * f.binade + kept) / f.binade = a + 1 := by
        rw [show a * f.binade + kept = (kept - f.binade) + (a + 1) * f.binade by rw [Nat.add_mul]; omega, Nat.add_mul_div_right _ _ hbp, Nat.div_eq_of_lt (by omega)]; omega
      have hmod : (a * f.binade + kept) % f.binade = kept - f.binade := by
        rw [show a * f.binade + kept = (kept - f.binade) + (a + 1) * f.binade by rw [Nat.add_mul]; omega, Nat.add_mul_mod_self_right, Nat.mod_eq_of_lt (by omega)]
      rw [hdiv, hmod]
      refine ⟨_, _, rfl, by omega, ?_⟩
      rw [show f.binade + (kept - f.binade) = kept by omega]
      congr 2
      omega
    · have hk2 : kept = 2 * f.binade := by omega
      have hdiv : (a * f.binade + kept) / f.binade = a + 2 := by
        rw [show a * f.binade + kept = 0 + (a + 2) * f.binade by rw [Nat.add_mul]; omega, Nat.add_mul_div_right _ _ hbp, Nat.zero_div]; omega
      have hmod : (a * f.binade + kept) % f.binade = 0 := by
        rw [show a * f.binade + kept = 0 + (a + 2) * f.binade by rw [Nat.add_mul]; omega, Nat.add_mul_mod_self_right, Nat.zero_mod]
      rw [hdiv, hmod]
      refine ⟨_, _, rfl, by omega, ?_⟩
      rw [Nat.add_zero, hk2, show (f.leastPlace + ((a + 2 - 1 : Nat) : Int) - f.leastPlace).toNat = a + 1 by omega, Nat.pow_succ, Nat.mul_comm 2, Nat.mul_assoc, Nat.mul_comm 2]

/-- To the nearest: how far. -/
theorem cut_err (neg : Bool) (n d : Nat) : (Ieee.Toward.even.cut neg n d * 2 ^ d : Nat) ≤ n + 2 ^ d / 2 ∧ n ≤ Ieee.Toward.even.cut neg n d * 2 ^ d + 2 ^ d / 2 := by
  have key : ∀ g : Nat, 0 < g → ∀ b : Bool, (b = true → g ≤ 2 * (n % g)) → (b = false → 2 * (n % g) ≤ g) → (n / g + b.toNat) * g ≤ n + g / 2 ∧ n ≤ (n / g + b.toNat) * g + g / 2 := by
    intro g hg b h1 h2
    have hd := Nat.div_add_mod n g
    have hm := Nat.mod_lt n hg
    rw [Nat.mul_comm] at hd
    rw [Nat.add_mul]
    cases b
    · have := h2 rfl
      simp only [Bool.toNat_false, Nat.zero_mul, Nat.add_zero]
      omega
    · have := h1 rfl
      simp only [Bool.toNat_true, Nat.one_mul]
      omega
  by_cases hd : d ≤ n.log2 + 2
  · unfold Ieee.Toward.cut
    simp only [Nat.min_eq_left hd, Nat.shiftLeft_eq, Nat.one_mul]
    refine key (2 ^ d) (Nat.two_pow_pos _) _ (fun h => ?_) (fun h => ?_)
    · simp only [Bool.or_eq_true, decide_eq_true_eq, Bool.and_eq_true, beq_iff_eq] at h
      omega
    · simp only [Bool.or_eq_false_iff, decide_eq_false_iff_not] at h
      omega
  · have h1 : n < 2 ^ (n.log2 + 1) := Nat.lt_log2_self
    have h2 : 2 ^ (n.log2 + 2) = 2 * 2 ^ (n.log2 + 1) := by rw [show n.log2 + 2 = (n.log2 + 1) + 1 from rfl, Nat.pow_succ, Nat.mul_comm]
    have h3 : 2 ^ (n.log2 + 2) ≤ 2 ^ d := Nat.pow_le_pow_right (by decide) (by omega)
    have h0 : Ieee.Toward.even.cut neg n d = 0 := by
      unfold Ieee.Toward.cut
      simp only [Nat.min_eq_right (show n.log2 + 2 ≤ d by omega), Nat.shiftLeft_eq, Nat.one_mul]
      rw [Nat.div_eq_of_lt (by omega), Nat.mod_eq_of_lt (by omega)]
      simp
      omega
    rw [h0]
    omega
set_option maxRecDepth 100000 in
theorem nearest_err (neg : Bool) (mag : Nat) (place E : Int) (K : Nat) (hK : 1074 ≤ K) (hp : -(K : Int) ≤ place) (h : mag = 0 ∨ place + (mag.log2 : Int) < E) (hE : -1021 ≤ E) (hE2 : E ≤ 1023) :
    ∃ m e, Ieee.double.read (Ieee.double.nearest neg mag place) = .number neg m e ∧ -1074 ≤ e ∧ sc K m e ≤ sc K mag place + 2 ^ (E - 54 + K).toNat ∧ sc K mag place ≤ sc K m e + 2 ^ (E - 54 + K).toNat := by
  by_cases h0 : mag = 0
  · subst h0
    exact ⟨0, -1074, nearest_zero _ _ _, by omega, by simp [sc], by simp [sc]⟩
  have hlt := h.resolve_left h0
  have hlp : Ieee.double.leastPlace = -1074 := by decide
  have hfb : Ieee.double.fractionBits = 52 := rfl
  have hbb : Ieee.double.binade = 2 ^ 52 := rfl
  have hir : Ieee.double.infRung = 2047 * 2 ^ 52 := by decide
  unfold Ieee.Format.nearest
  rw [if_neg h0]
  dsimp only
  rw [hlp, hfb]
  generalize hlast : max (place + (mag.log2 : Int) - (52 : Nat)) (-1074) = last
  have herr := cut_err neg (mag <<< (place - last).toNat) (last - place).toNat
  have hlo : mag.log2 ≤ mag.log2 := Nat.le_refl _
  have hge : 2 ^ mag.log2 ≤ mag := Nat.log2_self_le h0
  have hcut : Ieee.Toward.even.cut neg (mag <<< (place - last).toNat) (last - place).toNat ≤ 2 ^ 53 := by
    apply cut_le
    rw [Nat.shiftLeft_eq]
    have h1 : mag * 2 ^ (place - last).toNat < 2 ^ (mag.log2 + 1) * 2 ^ (place - last).toNat := Nat.mul_lt_mul_of_pos_right Nat.lt_log2_self (Nat.two_pow_pos _)
    refine Nat.lt_of_lt_of_le h1 ?_
    rw [← Nat.pow_add]
    exact Nat.pow_le_pow_right (by decide) (by omega)
  have hkb : last = -1074 ∨ 2 ^ 52 ≤ Ieee.Toward.even.cut neg (mag <<< (place - last).toNat) (last - place).toNat := by
    by_cases hl : last = -1074
    · exact .inl hl
    · right
      have hl2 : last = place + (mag.log2 : Int) - 52 := by omega
      unfold Ieee.Toward.cut
      dsimp only
      refine Nat.le_trans ?_ (Nat.le_add_right _ _)
      have hlog : (mag <<< (place - last).toNat).log2 = mag.log2 + (place - last).toNat := by
        rw [Nat.log2_eq_iff (by rw [Nat.shiftLeft_eq]; exact Nat.mul_ne_zero h0 (Nat.pos_iff_ne_zero.1 (Nat.two_pow_pos _))), Nat.shiftLeft_eq]
        refine ⟨?_, ?_⟩
        · rw [Nat.pow_add]; exact Nat.mul_le_mul_right _ hge
        · rw [show mag.log2 + (place - last).toNat + 1 = (mag.log2 + 1) + (place - last).toNat by omega, Nat.pow_add]
          exact Nat.mul_lt_mul_of_pos_right Nat.lt_log2_self (Nat.two_pow_pos _)
      rw [hlog, Nat.min_eq_left (by omega), Nat.shiftLeft_eq, Nat.shiftLeft_eq, Nat.one_mul, Nat.le_div_iff_mul_le (Nat.two_pow_pos _), ← Nat.pow_add]
      refine Nat.le_trans ?_ (Nat.mul_le_mul_right _ hge)
      rw [← Nat.pow_add]
      exact Nat.pow_le_pow_right (by decide) (by omega)
  generalize Ieee.Toward.even.cut neg (mag <<< (place - last).toNat) (last - place).toNat = kept at *
  obtain ⟨a, ha⟩ : ∃ a : Nat, last = -1074 + a := ⟨(last - -1074).toNat, by omega⟩
  rw [show (last - -1074).toNat = a by omega]
  have hal : (a : Int) ≤ E - 53 + 1074 := by omega
  have hrl : a * Ieee.double.binade + kept < Ieee.double.infRung := by
    rw [hbb, hir]
    have : a * 2 ^ 52 ≤ 2044 * 2 ^ 52 := Nat.mul_le_mul_right _ (by omega)
    omega
  rw [Nat.min_eq_left (Nat.le_of_lt hrl)]
  obtain ⟨m, e, g1, g2, g3⟩ := rung_value Ieee.double neg a kept (by rw [hbb]; omega) (by rw [hbb]; omega) hrl
  rw [hlp] at g2 g3
  refine ⟨m, e, g1, g2, ?_⟩
  -- both in units of 2 to the power of -K
  have e1 : sc K m e = kept * 2 ^ (a + (K - 1074)) := by
    unfold sc
    rw [show (e + (K : Int)).toNat = (e - -1074).toNat + (K - 1074) by omega, Nat.pow_add, ← Nat.mul_assoc, g3, Nat.mul_assoc, ← Nat.pow_add]
  have e2 : sc K mag place * 2 ^ (last - place).toNat = (mag <<< (place - last).toNat) * 2 ^ (a + (K - 1074)) := by
    unfold sc
    rw [Nat.shiftLeft_eq, Nat.mul_assoc, ← Nat.pow_add, Nat.mul_assoc, ← Nat.pow_add]
    congr 2
    omega
  by_cases hle : last ≤ place
  · have hd : (last - place).toNat = 0 := by omega
    rw [hd, Nat.pow_zero, Nat.mul_one] at e2
    rw [hd] at herr
    simp only [Nat.pow_zero, Nat.mul_one] at herr
    have hk : kept = mag <<< (place - last).toNat := by omega
    rw [e1, e2, hk]
    have := Nat.zero_le (2 ^ (E - 54 + K).toNat)
    omega
  · obtain ⟨d, hd⟩ : ∃ d : Nat, (last - place).toNat = d + 1 := ⟨(last - place).toNat - 1, by omega⟩
    have hpl : (place - last).toNat = 0 := by omega
    rw [hpl, Nat.shiftLeft_zero] at herr e2
    rw [hd] at herr e2
    have h2d : 2 ^ (d + 1) / 2 = 2 ^ d := by rw [Nat.pow_succ]; omega
    rw [h2d] at herr
    have e3 : sc K m e = (kept * 2 ^ (d + 1)) * 2 ^ (place + K).toNat := by
      rw [e1, Nat.mul_assoc, ← Nat.pow_add]
      congr 2
      omega
    have e4 : sc K mag place = mag * 2 ^ (place + K).toNat := rfl
    have e5 : 2 ^ d * 2 ^ (place + K).toNat ≤ 2 ^ (E - 54 + K).toNat := by
      rw [← Nat.pow_add]
      exact Nat.pow_le_pow_right (by decide) (by omega)
    rw [e3, e4]
    have u1 := Nat.mul_le_mul_right (2 ^ (place + (K : Int)).toNat) herr.1
    have u2 := Nat.mul_le_mul_right (2 ^ (place + (K : Int)).toNat) herr.2
    rw [Nat.add_mul] at u1 u2
    omega
end Go.Fl
