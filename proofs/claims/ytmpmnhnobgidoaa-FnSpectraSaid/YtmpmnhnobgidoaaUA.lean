/- Sines and points of the unit circle, as plain functions of words; bounds of all steps. -/
import Derived.Test.YtmpmnhnobgidoaaVD
namespace Go.Fl
set_option linter.unusedSimpArgs false
set_option linter.unusedVariables false
open Go Go.RowKit

/-! ### What a word's lower bits stand for; what is cut off -/
theorem read_abs {x : Nat} {s : Bool} {m : Nat} {e : Int} (h : FloatKind.f64.format.read x = .number s m e) : FloatKind.f64.format.read (x % 2 ^ 63) = .number false m e := by
  have e1 : FloatKind.f64.format.signWeight = 2 ^ 63 := by decide
  have e2 : x % 2 ^ 63 / 2 ^ 63 = 0 := Nat.div_eq_of_lt (Nat.mod_lt _ (by decide))
  unfold Ieee.Format.read at h ⊢
  rw [e1] at h ⊢
  simp only [Nat.mod_mod, e2] at h ⊢
  split at h
  · rename_i h1
    rw [if_pos h1]
    simp only [Ieee.Datum.number.injEq] at h
    obtain ⟨-, h2, h3⟩ := h
    rw [h2, h3]; rfl
  · rename_i h1
    rw [if_neg h1]
    split at h
    · rename_i h4
      rw [if_pos h4]
      simp only [Ieee.Datum.number.injEq] at h
      obtain ⟨-, h2, h3⟩ := h
      rw [h2, h3]; rfl
    · split at h <;> cases h
theorem abs_rv {x : Nat} {q : Rat} (h : Rv .f64 x q) (h0 : 0 ≤ q) : Rv .f64 (x % 2 ^ 63) q := by
  obtain ⟨s, m, e, h1, rfl⟩ := h
  refine ⟨false, m, e, read_abs h1, ?_⟩
  have := q_nonneg m e
  unfold dq sq at *
  cases s
  · rfl
  · simp only [if_true, Bool.false_eq_true, if_false] at h0 ⊢
    grind
theorem abs_rv' {x : Nat} {q : Rat} (h : Rv .f64 x q) (h0 : q ≤ 0) : Rv .f64 (x % 2 ^ 63) (-q) := by
  obtain ⟨s, m, e, h1, rfl⟩ := h
  refine ⟨false, m, e, read_abs h1, ?_⟩
  have := q_nonneg m e
  unfold dq sq at *
  cases s
  · simp only [if_true, Bool.false_eq_true, if_false] at h0 ⊢
    grind
  · simp only [if_true, Bool.false_eq_true, if_false] at h0 ⊢
    grind
theorem cut_small (s : Bool) (m : Nat) (e : Int) (h : (m : Rat) * two e < 1) : Ieee.Toward.zero.cut s (m <<< e.toNat) (-e).toNat = 0 := by
  unfold Ieee.Toward.cut
  simp only [Bool.toNat_false, Nat.add_zero]
  by_cases he : 0 ≤ e
  · have h1 : m = 0 := by
      apply Nat.eq_zero_of_not_pos
      intro hm
      have h2 : (1 : Rat) ≤ (m : Rat) := by
        have : ((1 : Nat) : Rat) ≤ (m : Rat) := Rat.natCast_le_natCast.2 hm
        simpa using this
      have h3 : (1 : Rat) ≤ two e := two_mono he
      have := Rat.mul_le_mul_of_nonneg_left h3 (show (0 : Rat) ≤ (m : Rat) by grind)
      grind
    subst h1
    simp
  · have hz : e.toNat = 0 := by omega
    rw [hz, Nat.shiftLeft_zero]
    apply Nat.div_eq_of_lt
    have h1 : (m : Rat) < two (((-e).toNat : Nat) : Int) := by
      have h2 := two_add e (((-e).toNat : Nat) : Int)
      rw [show e + (((-e).toNat : Nat) : Int) = 0 by omega, show two 0 = 1 from rfl] at h2
      have h3 := Rat.mul_lt_mul_of_pos_right h (two_pos (((-e).toNat : Nat) : Int))
      rw [Rat.mul_assoc, ← h2, Rat.mul_one, Rat.one_mul] at h3
      exact h3
    rw [two_nat] at h1
    have h4 : m < 2 ^ (-e).toNat := Rat.natCast_lt_natCast.1 h1
    have h5 : m < 2 ^ (m.log2 + 2) := by
      by_cases h0 : m = 0
      · subst h0; decide
      · have := (Nat.log2_lt h0 (k := m.log2 + 1)).1 (by omega)
        have h6 : 2 ^ (m.log2 + 1) ≤ 2 ^ (m.log2 + 2) := Nat.pow_le_pow_right (by decide) (by omega)
        omega
    rw [Nat.shiftLeft_eq, Nat.one_mul]
    rcases Nat.le_total (-e).toNat (m.log2 + 2) with h6 | h6
    · rw [Nat.min_eq_left h6]; exact h4
    · rw [Nat.min_eq_right h6]; exact h5
/-- What is cut off towards zero of a number between -1 and 1. -/
theorem trunc_small {x : Nat} {q : Rat} (h : Rv .f64 x q) (h1 : q < 1) (h2 : -q < 1) : ∃ s m e, FloatKind.f64.decode x = .number s m e ∧ FloatKind.f64.encode ((Ieee.Datum.number s m e).integral .zero) = (if s then 2 ^ 63 else 0) ∧ Ieee.Datum.toInt .zero (.number s m e) = some 0 := by
  obtain ⟨s, m, e, h3, rfl⟩ := h
  have h4 : (m : Rat) * two e < 1 := by
    unfold dq sq at h1 h2
    cases s <;> simp at h1 h2 <;> grind
  have h5 := cut_small s m e h4
  refine ⟨s, m, e, h3, ?_, ?_⟩
  · show FloatKind.f64.encode (.number s (Ieee.Toward.zero.cut s (m <<< e.toNat) (-e).toNat) 0) = _
    rw [h5]
    cases s <;> decide
  · show some (Ieee.signed s (Ieee.Toward.zero.cut s (m <<< e.toNat) (-e).toNat) 0) = _
    rw [h5]
    cases s <;> rfl
theorem zero_rv (s : Bool) : Rv .f64 (if s then 2 ^ 63 else 0) 0 := by
  cases s
  · exact rv_zero .f64
  · exact ⟨true, 0, -1074, by decide, by decide +kernel⟩
/-! ### Constants -/
def QW : Nat := 4598175219545276416
def HW : Nat := 4602678819172646912
def TW : Nat := 4618760256179416344
def OW : Nat := 4607182418800017408
theorem qw_rv : Rv .f64 QW (1 / 4) := ⟨false, 4503599627370496, -54, by decide +kernel, by decide +kernel⟩
theorem hw_rv : Rv .f64 HW (1 / 2) := ⟨false, 4503599627370496, -53, by decide +kernel, by decide +kernel⟩
theorem tw_rv : ∃ q, Rv .f64 TW q ∧ 0 ≤ q ∧ q ≤ 63 / 10 := ⟨_, ⟨false, 7074237752028440, -50, by decide +kernel, rfl⟩, by decide +kernel, by decide +kernel⟩
theorem ow_rv : Rv .f64 OW 1 := ⟨false, 4503599627370496, -52, by decide +kernel, by decide +kernel⟩
/-- The divisors: 2k(2k+1) for k from 8 down. -/
def kOf (j : Nat) : Int := 8 - (j : Int)
def den (j : Nat) : Nat := floatOfInt .f64 (2 * kOf j * (2 * kOf j + 1))
def pAt (u : Nat) : Nat → Nat
  | 0 => OW
  | j + 1 => fa .sub .f64 OW (fa .quo .f64 (fa .mul .f64 u (pAt u j)) (den j))
def fold4 (f : Nat) : Nat := if fgt .f64 f QW then fa .sub .f64 HW f else f
def sinZ (y : Nat) : Nat := fa .mul .f64 (fold4 (fa .sub .f64 y 0)) TW
def sinU (y : Nat) : Nat := fa .mul .f64 (sinZ y) (sinZ y)
/-- The sine of some turns, at least 0 and not much more than a quarter. -/
def sineW (y : Nat) : Nat := fa .mul .f64 (sinZ y) (pAt (sinU y) 8)
/-! ### Bounds -/
theorem rep_rv {k : FloatKind} {x : Nat} {q : Rat} (h : Rv k x q) : Rep k q := by
  obtain ⟨s, m, e, h1, rfl⟩ := h
  have hm : m < 2 ^ (fb k + 1) ∧ pl k ≤ e := by
    unfold Ieee.Format.read at h1
    rw [binade_is, least_is] at h1
    simp only [] at h1
    split at h1
    · rename_i h2
      simp only [Ieee.Datum.number.injEq] at h1
      obtain ⟨-, rfl, rfl⟩ := h1
      exact ⟨by rw [Nat.pow_succ]; omega, by omega⟩
    · split at h1
      · simp only [Ieee.Datum.number.injEq] at h1
        obtain ⟨-, rfl, rfl⟩ := h1
        refine ⟨?_, by omega⟩
        have := Nat.mod_lt (x % k.format.signWeight) (show 0 < 2 ^ fb k from Nat.two_pow_pos _)
        rw [Nat.pow_succ]; omega
      · split at h1 <;> cases h1
  cases s
  · exact ⟨(m : Int), e, by unfold dq sq; simp [Rat.intCast_natCast], by simpa using hm.1, hm.2⟩
  · exact ⟨-(m : Int), e, by unfold dq sq; simp [Rat.intCast_natCast, Rat.intCast_neg, Rat.neg_mul], by simpa using hm.1, hm.2⟩
theorem sub_zero_rv {x : Nat} {q : Rat} (h : Rv .f64 x q) (hw : Wi q 1000) : Rv .f64 (fa .sub .f64 x 0) q := by
  obtain ⟨r, h1, h2⟩ := sub_w h (rv_zero .f64) (show Wi (q - 0) 1000 by rw [show q - 0 = q by grind]; exact hw) (by decide +kernel)
  rw [show q - 0 = q by grind] at h2
  have := h2.ex (rep_rv h)
  rwa [this] at h1
theorem den_rv {j : Nat} (h : j < 8) : ∃ n : Int, Rv .f64 (den j) (n : Rat) ∧ 6 ≤ n ∧ n ≤ 272 := by
  have hk : 1 ≤ kOf j ∧ kOf j ≤ 8 := by unfold kOf; omega
  obtain ⟨k, hk0⟩ : ∃ k, k = kOf j := ⟨_, rfl⟩
  rw [← hk0] at hk
  have hc : k = 1 ∨ k = 2 ∨ k = 3 ∨ k = 4 ∨ k = 5 ∨ k = 6 ∨ k = 7 ∨ k = 8 := by omega
  refine ⟨2 * k * (2 * k + 1), ?_, ?_, ?_⟩
  · unfold den
    rw [← hk0]
    refine ofInt_q .f64 _ ?_
    rcases hc with rfl | rfl | rfl | rfl | rfl | rfl | rfl | rfl <;> decide
  · rcases hc with rfl | rfl | rfl | rfl | rfl | rfl | rfl | rfl <;> decide
  · rcases hc with rfl | rfl | rfl | rfl | rfl | rfl | rfl | rfl <;> decide
/-- One step of the series. -/
structure Ser (u p d : Nat) : Prop where
  mul : ∃ q, Rv .f64 (fa .mul .f64 u p) q
  quo : ∃ q, Rv .f64 (fa .quo .f64 (fa .mul .f64 u p) d) q
  sub : ∃ q, Rv .f64 (fa .sub .f64 OW (fa .quo .f64 (fa .mul .f64 u p) d)) q ∧ Wi q 2
theorem ser_of {u p : Nat} {U P : Rat} (hu : Rv .f64 u U) (h1 : Wi U (29 / 10)) (hp : Rv .f64 p P) (h2 : Wi P 2) {j : Nat} (hj : j < 8) : Ser u p (den j) := by
  have e64 := ep64
  have t64 := et64
  obtain ⟨n, hn, n1, n2⟩ := den_rv hj
  have n1' : (6 : Rat) ≤ (n : Rat) := Rat.intCast_le_intCast.2 n1
  have hm := h1.mul h2
  obtain ⟨M, m1, m2⟩ := mul_w hu hp hm (by decide +kernel)
  have m3 : Wi M (59 / 10) := by
    have := (m2.wi hm)
    have e : M = U * P + (M - U * P) := by grind
    rw [e]
    exact (hm.add this).mono (by rw [e64]; grind)
  have hn0 : (n : Rat) ≠ 0 := by grind
  have hq : M / (n : Rat) * (n : Rat) = M := Rat.div_mul_cancel hn0
  have hqw : Wi (M / (n : Rat)) (99 / 100) := by
    unfold Wi at m3 ⊢
    constructor
    · apply Rat.le_of_mul_le_mul_right _ (show (0 : Rat) < (n : Rat) by grind)
      rw [hq]; grind
    · apply Rat.le_of_mul_le_mul_right _ (show (0 : Rat) < (n : Rat) by grind)
      rw [hq]; grind
  obtain ⟨D, d1, d2⟩ := quo_w m1 hn hn0 hq hqw (by decide +kernel)
  have d3 : Wi D (995 / 1000) := by
    have := d2.wi hqw
    have e : D = M / (n : Rat) + (D - M / (n : Rat)) := by grind
    rw [e]
    exact (hqw.add this).mono (by rw [e64]; grind)
  have hs : Wi (1 - D) (1995 / 1000) := by unfold Wi at d3 ⊢; grind
  obtain ⟨S, s1, s2⟩ := sub_w ow_rv d1 hs (by decide +kernel)
  refine ⟨⟨M, m1⟩, ⟨D, d1⟩, ⟨S, s1, ?_⟩⟩
  have := s2.wi hs
  have e : S = (1 - D) + (S - (1 - D)) := by grind
  rw [e]
  exact (hs.add this).mono (by rw [e64]; grind)
theorem pAt_rv {u : Nat} {U : Rat} (hu : Rv .f64 u U) (h1 : Wi U (29 / 10)) : ∀ j, j ≤ 8 → ∃ P, Rv .f64 (pAt u j) P ∧ Wi P 2
  | 0, _ => ⟨1, ow_rv, by unfold Wi; grind⟩
  | j + 1, hj => by
    obtain ⟨P, p1, p2⟩ := pAt_rv hu h1 j (by omega)
    exact (ser_of hu h1 p1 p2 (show j < 8 by omega)).sub
/-- All that a sine's steps give. -/
structure SinF (y : Nat) : Prop where
  f : ∃ q, Rv .f64 (fa .sub .f64 y 0) q ∧ 0 ≤ q ∧ q ≤ 26 / 100
  g : ∃ q, Rv .f64 (fa .sub .f64 HW (fa .sub .f64 y 0)) q
  z : ∃ q, Rv .f64 (sinZ y) q
  u : ∃ q, Rv .f64 (sinU y) q
  s : ∀ j, j < 8 → Ser (sinU y) (pAt (sinU y) j) (den j)
  r : ∃ q, Rv .f64 (sineW y) q ∧ Wi q 4
theorem sinF {y : Nat} {q : Rat} (h : Rv .f64 y q) (h0 : 0 ≤ q) (h1 : q ≤ 26 / 100) : SinF y := by
  have e64 := ep64
  have t64 := et64
  have hf := sub_zero_rv h (by unfold Wi; grind)
  have hgw : Wi (1 / 2 - q) (1 / 2) := by unfold Wi; grind
  obtain ⟨G, g1, g2⟩ := sub_w hw_rv hf hgw (by decide +kernel)
  have g3 := g2.wi hgw
  have hF : ∃ F, Rv .f64 (fold4 (fa .sub .f64 y 0)) F ∧ Wi F (2601 / 10000) := by
    unfold fold4
    rw [fgt_q hf qw_rv]
    by_cases hc : 1 / 4 < q
    · rw [if_pos (by simpa using hc)]
      exact ⟨G, g1, by unfold Wi at *; rw [e64] at g3; grind⟩
    · rw [if_neg (by simpa using hc)]
      exact ⟨q, hf, by unfold Wi; grind⟩
  obtain ⟨F, f1, f2⟩ := hF
  obtain ⟨T, t1, t2, t3⟩ := tw_rv
  have hTw : Wi T (63 / 10) := by unfold Wi; grind
  have hzw := f2.mul hTw
  obtain ⟨Z, z1, z2⟩ := mul_w f1 t1 hzw (by decide +kernel)
  have z3 : Wi Z (164 / 100) := by
    have := z2.wi hzw
    have e : Z = F * T + (Z - F * T) := by grind
    rw [e]
    exact (hzw.add this).mono (by rw [e64]; grind)
  have huw := z3.mul z3
  obtain ⟨U, u1, u2⟩ := mul_w z1 z1 huw (by decide +kernel)
  have u3 : Wi U (29 / 10) := by
    have := u2.wi huw
    have e : U = Z * Z + (U - Z * Z) := by grind
    rw [e]
    exact (huw.add this).mono (by rw [e64]; grind)
  have hp := pAt_rv u1 u3
  obtain ⟨P, p1, p2⟩ := hp 8 (by omega)
  have hrw := z3.mul p2
  obtain ⟨R, r1, r2⟩ := mul_w z1 p1 hrw (by decide +kernel)
  refine ⟨⟨q, hf, h0, h1⟩, ⟨G, g1⟩, ⟨Z, z1⟩, ⟨U, u1⟩, fun j hj => ?_, ⟨R, r1, ?_⟩⟩
  · obtain ⟨P, p1, p2⟩ := hp j (by omega)
    exact ser_of u1 u3 p1 p2 hj
  · have := r2.wi hrw
    have e : R = Z * P + (R - Z * P) := by grind
    rw [e]
    exact (hrw.add this).mono (by rw [e64]; grind)
/-! ### Quarters -/
def fq (f : Nat) : Nat → Nat
  | 0 => f
  | k + 1 => fa .sub .f64 (fq f k) QW
def qnt (f : Nat) : Nat := if fge .f64 (fq f 0) QW = false then 0 else if fge .f64 (fq f 1) QW = false then 1 else if fge .f64 (fq f 2) QW = false then 2 else if fge .f64 (fq f 3) QW = false then 3 else 4
theorem fq_rv {f : Nat} {q : Rat} (h : Rv .f64 f q) (h0 : 0 ≤ q) (h1 : q ≤ 1) : ∀ k, k ≤ 4 → (∀ j, j < k → fge .f64 (fq f j) QW = true) → ∃ v, Rv .f64 (fq f k) v ∧ 0 ≤ v ∧ v ≤ 1 - (k : Rat) / 4 + (k : Rat) / 1000000
  | 0, _, _ => ⟨q, h, h0, by simp; grind⟩
  | k + 1, hk, hj => by
    obtain ⟨v, v1, v2, v3⟩ := fq_rv h h0 h1 k (by omega) (fun j hj' => hj j (by omega))
    have hg := hj k (by omega)
    rw [fge_q v1 qw_rv] at hg
    have hg' : 1 / 4 ≤ v := of_decide_eq_true hg
    have k0 : (0 : Rat) ≤ (k : Rat) := Rat.natCast_nonneg
    have hw : Wi (v - 1 / 4) 1 := by
      have : (k : Rat) ≤ 4 := by
        have : (k : Rat) ≤ ((4 : Nat) : Rat) := Rat.natCast_le_natCast.2 (by omega)
        simpa using this
      unfold Wi; grind
    obtain ⟨r, r1, r2⟩ := sub_w v1 qw_rv hw (by decide +kernel)
    have r3 := r2.wi hw
    have e64 := ep64
    have t64 := et64
    refine ⟨r, r1, r2.pos (by grind), ?_⟩
    rw [Rat.natCast_add, show ((1 : Nat) : Rat) = 1 from rfl]
    unfold Wi at r3
    rw [e64] at r3
    grind
structure QnF (f : Nat) (K : Nat) : Prop where
  le : K ≤ 4
  lt : ∀ j, j < K → fge .f64 (fq f j) QW = true
  no : fge .f64 (fq f K) QW = false
  rv : ∀ j, j ≤ K → ∃ v, Rv .f64 (fq f j) v ∧ 0 ≤ v ∧ v ≤ 1
theorem qnF {f : Nat} {q : Rat} (h : Rv .f64 f q) (h0 : 0 ≤ q) (h1 : q ≤ 1) : QnF f (qnt f) := by
  have key : ∀ K, K ≤ 4 → (∀ j, j < K → fge .f64 (fq f j) QW = true) → ∀ j, j ≤ K → ∃ v, Rv .f64 (fq f j) v ∧ 0 ≤ v ∧ v ≤ 1 := by
    intro K hK hl j hj
    obtain ⟨v, v1, v2, v3⟩ := fq_rv h h0 h1 j (by omega) (fun i hi => hl i (by omega))
    refine ⟨v, v1, v2, ?_⟩
    have : (0 : Rat) ≤ (j : Rat) := Rat.natCast_nonneg
    grind
  unfold qnt
  split
  · rename_i a0
    exact ⟨by omega, fun j hj => absurd hj (by omega), a0, key 0 (by omega) (fun j hj => absurd hj (by omega))⟩
  rename_i a0
  have b0 : ∀ j, j < 1 → fge .f64 (fq f j) QW = true := fun j hj => by
    obtain rfl : j = 0 := by omega
    simpa using a0
  split
  · rename_i a1
    exact ⟨by omega, b0, a1, key 1 (by omega) b0⟩
  rename_i a1
  have b1 : ∀ j, j < 2 → fge .f64 (fq f j) QW = true := fun j hj => by
    by_cases hj1 : j = 1
    · subst hj1; simpa using a1
    · exact b0 j (by omega)
  split
  · rename_i a2
    exact ⟨by omega, b1, a2, key 2 (by omega) b1⟩
  rename_i a2
  have b2 : ∀ j, j < 3 → fge .f64 (fq f j) QW = true := fun j hj => by
    by_cases hj1 : j = 2
    · subst hj1; simpa using a2
    · exact b1 j (by omega)
  split
  · rename_i a3
    exact ⟨by omega, b2, a3, key 3 (by omega) b2⟩
  rename_i a3
  have b3 : ∀ j, j < 4 → fge .f64 (fq f j) QW = true := fun j hj => by
    by_cases hj1 : j = 3
    · subst hj1; simpa using a3
    · exact b2 j (by omega)
  refine ⟨by omega, b3, ?_, key 4 (by omega) b3⟩
  obtain ⟨v, v1, v2, v3⟩ := fq_rv h h0 h1 4 (by omega) b3
  rw [fge_q v1 qw_rv]
  have e : ((4 : Nat) : Rat) = 4 := rfl
  rw [e] at v3
  exact decide_eq_false (by grind)
/-- The point at some turns, from 0 up to 1. -/
def turnF (t : Nat) : Nat := fa .sub .f64 t 0
def turnK (t : Nat) : Nat := qnt (turnF t)
def turnG (t : Nat) : Nat := fq (turnF t) (turnK t)
def cosT (t : Nat) : Nat := sineW (fa .sub .f64 QW (turnG t))
def sinT (t : Nat) : Nat := sineW (turnG t)
def reK (t K : Nat) : Nat := if K = 1 then fa .sub .f64 0 (sinT t) else if K = 2 then fa .sub .f64 0 (cosT t) else if K = 3 then sinT t else cosT t
def imK (t K : Nat) : Nat := if K = 1 then cosT t else if K = 2 then fa .sub .f64 0 (sinT t) else if K = 3 then fa .sub .f64 0 (cosT t) else sinT t
def phRe (t : Nat) : Nat := narrow (reK t (turnK t))
def phIm (t : Nat) : Nat := narrow (imK t (turnK t))
structure PhF (t : Nat) : Prop where
  q : QnF (turnF t) (turnK t)
  y : ∃ q, Rv .f64 (fa .sub .f64 QW (turnG t)) q
  c : SinF (fa .sub .f64 QW (turnG t))
  s : SinF (turnG t)
  nc : ∃ q, Rv .f64 (fa .sub .f64 0 (cosT t)) q ∧ Wi q 5
  ns : ∃ q, Rv .f64 (fa .sub .f64 0 (sinT t)) q ∧ Wi q 5
theorem neg_small {x : Nat} {q : Rat} (h : Rv .f64 x q) (hw : Wi q 4) : ∃ q, Rv .f64 (fa .sub .f64 0 x) q ∧ Wi q 5 := by
  have h1 : Wi (0 - q) 4 := by unfold Wi at *; grind
  obtain ⟨r, r1, r2⟩ := sub_w (rv_zero .f64) h h1 (by decide +kernel)
  have := r2.wi h1
  refine ⟨r, r1, ?_⟩
  have e64 := ep64
  have t64 := et64
  unfold Wi at *
  rw [e64] at this
  grind
theorem phF {t : Nat} {q : Rat} (h : Rv .f64 t q) (h0 : 0 ≤ q) (h1 : q ≤ 1) : PhF t := by
  have e64 := ep64
  have t64 := et64
  have hf := sub_zero_rv h (by unfold Wi; grind)
  have hq : QnF (turnF t) (turnK t) := qnF hf h0 h1
  obtain ⟨v, v1, v2, v3⟩ := hq.rv (turnK t) (Nat.le_refl _)
  have hn := hq.no
  rw [fge_q v1 qw_rv] at hn
  have hn' : v < 1 / 4 := Rat.not_le.1 (of_decide_eq_false hn)
  have hyw : Wi (1 / 4 - v) (1 / 4) := by unfold Wi; grind
  obtain ⟨Y, y1, y2⟩ := sub_w qw_rv v1 hyw (by decide +kernel)
  have y3 := y2.wi hyw
  have y4 := y2.pos (by grind)
  have hc : SinF (fa .sub .f64 QW (turnG t)) := sinF y1 y4 (by unfold Wi at y3; rw [e64] at y3; grind)
  have hs : SinF (turnG t) := sinF v1 v2 (by grind)
  obtain ⟨C, c1, c2⟩ := hc.r
  obtain ⟨S, s1, s2⟩ := hs.r
  exact ⟨hq, ⟨Y, y1⟩, hc, hs, neg_small c1 c2, neg_small s1 s2⟩
end Go.Fl
