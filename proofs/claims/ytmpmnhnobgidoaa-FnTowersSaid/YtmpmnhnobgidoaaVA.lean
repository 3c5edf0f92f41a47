/- Floats: what they stand for, as rationals, and how far rounding goes. -/
import Derived.Test.YtmpmnhnobgidoaaNE
namespace Go.Fl
set_option linter.unusedSimpArgs false
set_option linter.unusedVariables false
open Go Go.RowKit

def two (e : Int) : Rat := (2 : Rat) ^ e
theorem two_pos (e : Int) : 0 < two e := Rat.zpow_pos (by decide)
theorem two_add (a b : Int) : two (a + b) = two a * two b := Rat.zpow_add (by decide) a b
theorem two_nat (n : Nat) : two (n : Int) = ((2 ^ n : Nat) : Rat) := by unfold two; rw [Rat.zpow_natCast, Rat.natCast_pow]; rfl
theorem two_mono {a b : Int} (h : a ≤ b) : two a ≤ two b := by
  obtain ⟨n, hn⟩ : ∃ n : Nat, b = a + n := ⟨(b - a).toNat, by omega⟩
  rw [hn, two_add, two_nat]
  have h1 : (1 : Rat) ≤ ((2 ^ n : Nat) : Rat) := by
    have : ((1 : Nat) : Rat) ≤ ((2 ^ n : Nat) : Rat) := Rat.natCast_le_natCast.2 (Nat.one_le_two_pow)
    simpa using this
  have := Rat.mul_le_mul_of_nonneg_left h1 (Rat.le_of_lt (two_pos a))
  rwa [Rat.mul_one] at this
theorem two_lt {a b : Int} (h : two a < two b) : a < b := by
  apply Int.lt_of_not_ge
  intro hc
  exact Rat.not_le.2 h (two_mono hc)
theorem two_toNat {e : Int} (h : 0 ≤ e) : ((2 ^ e.toNat : Nat) : Rat) = two e := by
  rw [← two_nat]; congr 1; omega

/-- A magnitude with its sign. -/
def sq (s : Bool) (q : Rat) : Rat := if s then -q else q
def dq (s : Bool) (m : Nat) (e : Int) : Rat := sq s ((m : Rat) * two e)
/-- A number that is finite, and what it stands for. -/
def Rv (k : FloatKind) (x : Nat) (q : Rat) : Prop := ∃ s m e, k.format.read x = .number s m e ∧ dq s m e = q

/-- The least place, the bits of a fraction, and above what all is infinite. -/
def pl : FloatKind → Int | .f32 => -149 | .f64 => -1074
def fb : FloatKind → Nat | .f32 => 23 | .f64 => 52
def tp : FloatKind → Int | .f32 => 127 | .f64 => 1023
theorem least_is (k : FloatKind) : k.format.leastPlace = pl k := by cases k <;> decide
theorem fraction_is (k : FloatKind) : k.format.fractionBits = fb k := by cases k <;> rfl
theorem binade_is (k : FloatKind) : k.format.binade = 2 ^ fb k := by cases k <;> rfl
theorem rung_fits (k : FloatKind) (a kept : Nat) (ha : (a : Int) + pl k + fb k ≤ tp k - 1) (hk : kept ≤ 2 * 2 ^ fb k) : a * 2 ^ fb k + kept < k.format.infRung := by
  cases k
  · have e : FloatKind.f32.format.infRung = 255 * 2 ^ 23 := by decide
    have : a * 2 ^ 23 ≤ 252 * 2 ^ 23 := Nat.mul_le_mul_right _ (by simp only [pl, fb, tp] at ha; omega)
    rw [e]; simp only [fb] at *; omega
  · have e : FloatKind.f64.format.infRung = 2047 * 2 ^ 52 := by decide
    have : a * 2 ^ 52 ≤ 2044 * 2 ^ 52 := Nat.mul_le_mul_right _ (by simp only [pl, fb, tp] at ha; omega)
    rw [e]; simp only [fb] at *; omega
/-- How far rounding goes: in parts of the number, and where numbers are least. -/
def ep (k : FloatKind) : Rat := two (-(fb k : Int))
def et (k : FloatKind) : Rat := two (pl k)

theorem q_nonneg (m : Nat) (e : Int) : 0 ≤ (m : Rat) * two e := Rat.mul_nonneg (by exact_mod_cast Rat.natCast_nonneg) (Rat.le_of_lt (two_pos e))
theorem log_two {m : Nat} (h : m ≠ 0) (e : Int) : two (e + m.log2) ≤ (m : Rat) * two e := by
  rw [Int.add_comm, two_add, two_nat]
  exact Rat.mul_le_mul_of_nonneg_right (Rat.natCast_le_natCast.2 (Nat.log2_self_le h)) (Rat.le_of_lt (two_pos e))
/-- Rounding, of magnitudes. -/
theorem round_mag (k : FloatKind) (neg : Bool) (mag : Nat) (place : Int) (h : (mag : Rat) * two place < two (tp k)) :
    ∃ m e, k.format.read (k.format.nearest neg mag place) = .number neg m e ∧ (m : Rat) * two e ≤ (mag : Rat) * two place + ((mag : Rat) * two place * ep k + et k) ∧
      (mag : Rat) * two place ≤ (m : Rat) * two e + ((mag : Rat) * two place * ep k + et k) ∧
      (∀ (n : Nat) (c : Int), (mag : Rat) * two place = (n : Rat) * two c → n < 2 ^ (fb k + 1) → pl k ≤ c → (m : Rat) * two e = (mag : Rat) * two place) := by
  by_cases h0 : mag = 0
  · subst h0
    have hz : ((0 : Nat) : Rat) * two place = 0 := by simp
    refine ⟨0, k.format.leastPlace, nearest_zero _ _ _, ?_⟩
    have hz' : ((0 : Nat) : Rat) * two k.format.leastPlace = 0 := by simp
    rw [hz, hz']
    have := two_pos (pl k)
    unfold et
    refine ⟨?_, ?_, fun _ _ _ _ _ => rfl⟩ <;> grind
  have hlog : place + (mag.log2 : Int) < tp k := two_lt (Std.lt_of_le_of_lt (log_two h0 place) h)
  unfold Ieee.Format.nearest
  rw [if_neg h0]
  dsimp only
  rw [least_is, fraction_is]
  generalize hlast : max (place + (mag.log2 : Int) - (fb k : Nat)) (pl k) = last
  have herr := cut_err neg (mag <<< (place - last).toNat) (last - place).toNat
  have hge : 2 ^ mag.log2 ≤ mag := Nat.log2_self_le h0
  have hcut : Ieee.Toward.even.cut neg (mag <<< (place - last).toNat) (last - place).toNat ≤ 2 ^ (fb k + 1) := by
    apply cut_le
    rw [Nat.shiftLeft_eq]
    have h1 : mag * 2 ^ (place - last).toNat < 2 ^ (mag.log2 + 1) * 2 ^ (place - last).toNat := Nat.mul_lt_mul_of_pos_right Nat.lt_log2_self (Nat.two_pow_pos _)
    refine Nat.lt_of_lt_of_le h1 ?_
    rw [← Nat.pow_add]
    exact Nat.pow_le_pow_right (by decide) (by omega)
  have hkb : last = pl k ∨ 2 ^ fb k ≤ Ieee.Toward.even.cut neg (mag <<< (place - last).toNat) (last - place).toNat := by
    by_cases hl : last = pl k
    · exact .inl hl
    · right
      have hl2 : last = place + (mag.log2 : Int) - fb k := by omega
      unfold Ieee.Toward.cut
      dsimp only
      refine Nat.le_trans ?_ (Nat.le_add_right _ _)
      have hlg : (mag <<< (place - last).toNat).log2 = mag.log2 + (place - last).toNat := by
        rw [Nat.log2_eq_iff (by rw [Nat.shiftLeft_eq]; exact Nat.mul_ne_zero h0 (Nat.pos_iff_ne_zero.1 (Nat.two_pow_pos _))), Nat.shiftLeft_eq]
        refine ⟨?_, ?_⟩
        · rw [Nat.pow_add]; exact Nat.mul_le_mul_right _ hge
        · rw [show mag.log2 + (place - last).toNat + 1 = (mag.log2 + 1) + (place - last).toNat by omega, Nat.pow_add]
          exact Nat.mul_lt_mul_of_pos_right Nat.lt_log2_self (Nat.two_pow_pos _)
      rw [hlg, Nat.min_eq_left (by omega), Nat.shiftLeft_eq, Nat.shiftLeft_eq, Nat.one_mul, Nat.le_div_iff_mul_le (Nat.two_pow_pos _), ← Nat.pow_add]
      refine Nat.le_trans ?_ (Nat.mul_le_mul_right _ hge)
      rw [← Nat.pow_add]
      exact Nat.pow_le_pow_right (by decide) (by omega)
  -- what is kept where nothing is lost
  have hexact : ∀ t : Nat, mag <<< (place - last).toNat = t * 2 ^ (last - place).toNat → Ieee.Toward.even.cut neg (mag <<< (place - last).toNat) (last - place).toNat = t := by
    intro t ht
    rw [ht] at herr ⊢
    generalize Ieee.Toward.even.cut neg (t * 2 ^ (last - place).toNat) (last - place).toNat = kk at herr ⊢
    have hp := Nat.two_pow_pos (last - place).toNat
    generalize 2 ^ (last - place).toNat = D at *
    rcases Nat.lt_trichotomy kk t with h1 | h1 | h1
    · exfalso
      have : (kk + 1) * D ≤ t * D := Nat.mul_le_mul_right _ h1
      rw [Nat.add_mul, Nat.one_mul] at this
      omega
    · exact h1
    · exfalso
      have : (t + 1) * D ≤ kk * D := Nat.mul_le_mul_right _ h1
      rw [Nat.add_mul, Nat.one_mul] at this
      omega
  generalize Ieee.Toward.even.cut neg (mag <<< (place - last).toNat) (last - place).toNat = kept at *
  obtain ⟨a, ha⟩ : ∃ a : Nat, last = pl k + a := ⟨(last - pl k).toNat, by omega⟩
  rw [show (last - pl k).toNat = a by omega]
  have hrl : a * 2 ^ fb k + kept < k.format.infRung := by
    refine rung_fits k a kept ?_ (by rw [Nat.pow_succ] at hcut; omega)
    have : pl k + (fb k : Int) ≤ tp k - 1 := by cases k <;> decide
    omega
  rw [binade_is, Nat.min_eq_left (Nat.le_of_lt hrl)]
  obtain ⟨m, e, g1, g2, g3⟩ := rung_value k.format neg a kept (by rw [binade_is]; rw [Nat.pow_succ] at hcut; omega) (by rw [binade_is]; omega) (by rw [binade_is]; exact hrl)
  rw [binade_is] at g1
  rw [least_is] at g2 g3
  refine ⟨m, e, g1, ?_⟩
  -- all in rationals
  have hr : (m : Rat) * two e = (kept : Rat) * two last := by
    rw [show e = (e - pl k) + pl k by omega, two_add, ← two_toNat (show 0 ≤ e - pl k by omega), ← Rat.mul_assoc, ← Rat.natCast_mul, g3, Rat.natCast_mul, ← two_nat, Rat.mul_assoc, ← two_add]
    congr 2; omega
  have hN : ((mag <<< (place - last).toNat : Nat) : Rat) * two (last - ((last - place).toNat : Int)) = (mag : Rat) * two place := by
    rw [Nat.shiftLeft_eq, Rat.natCast_mul, ← two_nat, Rat.mul_assoc, ← two_add]
    congr 2; omega
  have hK : ((kept * 2 ^ (last - place).toNat : Nat) : Rat) * two (last - ((last - place).toNat : Int)) = (kept : Rat) * two last := by
    rw [Rat.natCast_mul, ← two_nat, Rat.mul_assoc, ← two_add]
    congr 2; omega
  have hH : ((2 ^ (last - place).toNat / 2 : Nat) : Rat) * two (last - ((last - place).toNat : Int)) ≤ two last := by
    have h1 : ((2 ^ (last - place).toNat / 2 : Nat) : Rat) ≤ ((2 ^ (last - place).toNat : Nat) : Rat) := Rat.natCast_le_natCast.2 (Nat.div_le_self _ _)
    have h2 := Rat.mul_le_mul_of_nonneg_right h1 (Rat.le_of_lt (two_pos (last - ((last - place).toNat : Int))))
    rw [← two_nat, ← two_add, show (((last - place).toNat : Nat) : Int) + (last - ((last - place).toNat : Int)) = last by omega] at h2
    exact h2
  have hL : two last ≤ (mag : Rat) * two place * ep k + et k := by
    have hp1 := two_pos (pl k)
    have hp2 : 0 ≤ (mag : Rat) * two place * ep k := Rat.mul_nonneg (q_nonneg _ _) (Rat.le_of_lt (two_pos _))
    by_cases hl : last = pl k
    · rw [hl]; unfold et; grind
    · have hl2 : last = (place + (mag.log2 : Int)) + -(fb k : Int) := by omega
      have := Rat.mul_le_mul_of_nonneg_right (log_two h0 place) (Rat.le_of_lt (two_pos (-(fb k : Int))))
      rw [← two_add, ← hl2] at this
      unfold et
      have h3 : two last ≤ (mag : Rat) * two place * ep k := this
      grind
  have u1 := Rat.mul_le_mul_of_nonneg_right (Rat.natCast_le_natCast.2 herr.1) (Rat.le_of_lt (two_pos (last - ((last - place).toNat : Int))))
  have u2 := Rat.mul_le_mul_of_nonneg_right (Rat.natCast_le_natCast.2 herr.2) (Rat.le_of_lt (two_pos (last - ((last - place).toNat : Int))))
  rw [Rat.natCast_add, Rat.add_mul, hN, hK] at u1
  rw [Rat.natCast_add, Rat.add_mul, hN, hK] at u2
  rw [hr]
  refine ⟨by grind, by grind, ?_⟩
  intro n c hq hn hc
  have hdvd : ∃ t, mag <<< (place - last).toNat = t * 2 ^ (last - place).toNat := by
    by_cases hle : last ≤ place
    · exact ⟨mag <<< (place - last).toNat, by rw [show (last - place).toNat = 0 by omega, Nat.pow_zero, Nat.mul_one]⟩
    · rw [show (place - last).toNat = 0 by omega, Nat.shiftLeft_zero]
      by_cases hcl : last ≤ c
      · refine ⟨n * 2 ^ (c - last).toNat, ?_⟩
        rw [Nat.mul_assoc, ← Nat.pow_add]
        have h3 : (mag : Rat) * two place = ((n * 2 ^ ((c - last).toNat + (last - place).toNat) : Nat) : Rat) * two place := by
          rw [hq, Rat.natCast_mul, ← two_nat, Rat.mul_assoc, ← two_add]
          congr 2; omega
        have hne : two place ≠ 0 := Rat.ne_of_gt (two_pos place)
        have h4 : (mag : Rat) = ((n * 2 ^ ((c - last).toNat + (last - place).toNat) : Nat) : Rat) := by
          have := congrArg (· * (two place)⁻¹) h3
          simpa [Rat.mul_assoc, Rat.mul_inv_cancel _ hne] using this
        exact Rat.natCast_inj.1 h4
      · exfalso
        have hl2 : last = place + (mag.log2 : Int) - fb k := by omega
        have h5 : two (c + (fb k + 1 : Nat)) ≤ (n : Rat) * two c := by
          rw [← hq]
          refine Rat.le_trans (two_mono ?_) (log_two h0 place)
          omega
        rw [Int.add_comm, two_add, two_nat] at h5
        have h6 := Rat.le_of_mul_le_mul_right h5 (two_pos c)
        have := Rat.natCast_le_natCast.1 h6
        omega
  obtain ⟨t, ht⟩ := hdvd
  rw [hexact t ht, ← hN, ht, Rat.natCast_mul, ← two_nat, Rat.mul_assoc, ← two_add]
  congr 2; omega

def Rep (k : FloatKind) (q : Rat) : Prop := ∃ (n c : Int), q = (n : Rat) * two c ∧ n.natAbs < 2 ^ (fb k + 1) ∧ pl k ≤ c
/-- What a number becomes, rounded. -/
structure Near (k : FloatKind) (q r : Rat) : Prop where
  hi : ∀ b, q ≤ b → -q ≤ b → r ≤ q + (b * ep k + et k)
  lo : ∀ b, q ≤ b → -q ≤ b → q ≤ r + (b * ep k + et k)
  pos : 0 ≤ q → 0 ≤ r
  neg : q ≤ 0 → r ≤ 0
  ex : Rep k q → r = q
theorem ep_pos (k : FloatKind) : 0 < ep k := two_pos _
theorem et_pos (k : FloatKind) : 0 < et k := two_pos _
theorem round_q (k : FloatKind) (s : Bool) (mag : Nat) (place : Int) (h1 : dq s mag place < two (tp k)) (h2 : -(dq s mag place) < two (tp k)) :
    ∃ r, Rv k (k.format.nearest s mag place) r ∧ Near k (dq s mag place) r := by
  have hq := q_nonneg mag place
  have h : (mag : Rat) * two place < two (tp k) := by
    unfold dq sq at h1 h2
    cases s <;> simp at h1 h2 <;> grind
  obtain ⟨m, e, g1, g2, g3, g4⟩ := round_mag k s mag place h
  refine ⟨dq s m e, ⟨s, m, e, g1, rfl⟩, ?_⟩
  have hm := q_nonneg m e
  have he := ep_pos k
  unfold dq at *
  generalize (mag : Rat) * two place = q at *
  generalize (m : Rat) * two e = r at *
  have hb : ∀ b, q ≤ b → q * ep k ≤ b * ep k := fun b hb => Rat.mul_le_mul_of_nonneg_right hb (Rat.le_of_lt he)
  have hx : Rep k (sq s q) → r = q := by
    rintro ⟨n, c, hn, hl, hc⟩
    refine g4 n.natAbs c ?_ hl hc
    have hc0 := two_pos c
    have hab : ((n.natAbs : Nat) : Rat) = if 0 ≤ n then (n : Rat) else -(n : Rat) := by
      split
      · rename_i h; rw [← Rat.intCast_natCast]; congr 1; omega
      · rename_i h; rw [← Rat.intCast_natCast, ← Rat.intCast_neg]; congr 1; omega
    rw [hab]
    unfold sq at hn
    by_cases hs : s = true
    · subst hs
      simp only [if_true] at hn
      split
      · rename_i h0
        have : 0 ≤ (n : Rat) * two c := Rat.mul_nonneg (Rat.intCast_nonneg.2 h0) (Rat.le_of_lt hc0)
        have : q = 0 := by grind
        grind
      · grind
    · simp only [hs, if_false] at hn
      split
      · exact hn
      · rename_i h0
        have : (n : Rat) * two c < 0 := by
          have h5 : (n : Rat) < 0 := Rat.intCast_neg_iff.2 (by omega)
          have := Rat.mul_pos (show 0 < -(n : Rat) by grind) hc0
          grind
        grind
  unfold sq at *
  cases s
  · simp only [Bool.false_eq_true, if_false] at *
    refine ⟨fun b h1 _ => ?_, fun b h1 _ => ?_, fun _ => hm, fun h => ?_, hx⟩
    · have := hb b h1; grind
    · have := hb b h1; grind
    · have h0 : q = 0 := by grind
      subst h0
      have := hx ⟨0, pl k, by simp, by simp; exact Nat.two_pow_pos _, Int.le_refl _⟩
      grind
  · simp only [if_true] at *
    refine ⟨fun b _ h1 => ?_, fun b _ h1 => ?_, fun h => ?_, fun _ => by grind, fun h => by rw [hx h]⟩
    · have := hb b (by grind); grind
    · have := hb b (by grind); grind
    · have h0 : q = 0 := by grind
      subst h0
      have := hx ⟨0, pl k, by simp, by simp; exact Nat.two_pow_pos _, Int.le_refl _⟩
      grind
end Go.Fl
