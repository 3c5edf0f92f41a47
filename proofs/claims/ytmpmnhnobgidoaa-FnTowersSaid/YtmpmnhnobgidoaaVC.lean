/- Floats: quotients and roots, in rationals. -/
import Derived.Test.YtmpmnhnobgidoaaVB
namespace Go.Fl
set_option linter.unusedSimpArgs false
set_option linter.unusedVariables false
open Go Go.RowKit

theorem quot_near2 (a n : Nat) (hn : 0 < n) : (2 * (a / n) + (a % n != 0).toNat) * n ≤ 2 * a + n ∧ 2 * a ≤ (2 * (a / n) + (a % n != 0).toNat) * n + n := by
  have h1 := Nat.div_add_mod a n
  have h2 := Nat.mod_lt a hn
  rw [Nat.mul_comm] at h1
  rw [Nat.add_mul, Nat.mul_assoc]
  by_cases h0 : a % n = 0
  · rw [h0] at h1 ⊢
    simp only [bne_self_eq_false, Bool.toNat_false, Nat.zero_mul]
    omega
  · rw [show (a % n != 0) = true from bne_iff_ne.2 h0]
    simp only [Bool.toNat_true, Nat.one_mul]
    omega
theorem sq_le {s : Bool} {q Q c : Rat} (h1 : Q ≤ q + c) (h2 : q ≤ Q + c) : sq s Q ≤ sq s q + c ∧ sq s q ≤ sq s Q + c := by
  unfold sq; cases s <;> simp <;> grind
theorem ep_le (k : FloatKind) : ep k ≤ 1 := by
  have : two (-(fb k : Int)) ≤ two 0 := two_mono (by omega)
  unfold ep
  rw [show two 0 = 1 from rfl] at this
  exact this
theorem ep_four (k : FloatKind) : 4 * two (-((fb k + 2 : Nat) : Int)) = ep k := by
  unfold ep
  rw [show -(fb k : Int) = 2 + -((fb k + 2 : Nat) : Int) by omega, two_add]
  congr 1
section
variable {k : FloatKind} {x y : Nat} {a b : Rat}
theorem quo_mag (m n : Nat) (i j : Int) (hn : n ≠ 0) (q : Rat) (hq : q * ((n : Rat) * two j) = (m : Rat) * two i) (d : Nat) :
    let more := d + n.log2 - m.log2
    let D := 2 * ((m <<< more) / n) + ((m <<< more) % n != 0).toNat
    (D : Rat) * two (i - j - more - 1) ≤ q + q * two (-(d : Int)) ∧ q ≤ (D : Rat) * two (i - j - more - 1) + q * two (-(d : Int)) := by
  intro more D
  have hnp : (0 : Rat) < (n : Rat) := Rat.natCast_pos.2 (Nat.pos_of_ne_zero hn)
  have hN : (0 : Rat) < (n : Rat) * two j := Rat.mul_pos hnp (two_pos j)
  -- what the quotient is, in the same unit
  have hq2 : q * (n : Rat) = ((2 * (m <<< more) : Nat) : Rat) * two (i - j - more - 1) := by
    have h1 : q * (n : Rat) * two j = ((2 * (m <<< more) : Nat) : Rat) * two (i - j - more - 1) * two j := by
      rw [Rat.mul_assoc, hq, Nat.shiftLeft_eq, show 2 * (m * 2 ^ more) = m * 2 ^ (more + 1) by rw [Nat.pow_succ]; simp only [Nat.mul_assoc, Nat.mul_comm, Nat.mul_left_comm], Rat.natCast_mul, ← two_nat, Rat.mul_assoc, ← two_add, Rat.mul_assoc, ← two_add]
      congr 2; omega
    have h2 := congrArg (· * (two j)⁻¹) h1
    simp only [Rat.mul_assoc, Rat.mul_inv_cancel _ (Rat.ne_of_gt (two_pos j)), Rat.mul_one] at h2
    rw [h2]
  by_cases hm : m = 0
  · have hD : D = 0 := by
      show 2 * ((m <<< more) / n) + ((m <<< more) % n != 0).toNat = 0
      subst hm
      simp
    have hq0 : q = 0 := by
      have h1 : q * (n : Rat) = 0 := by rw [hq2, hm]; simp
      rcases Rat.mul_eq_zero.1 h1 with h | h
      · exact h
      · exact absurd h (Rat.ne_of_gt hnp)
    rw [hD, hq0]
    refine ⟨?_, ?_⟩ <;> simp <;> grind
  have hq0 : 0 ≤ q := by
    apply Rat.not_lt.1
    intro h
    have h1 : 0 ≤ q * ((n : Rat) * two j) := by rw [hq]; exact q_nonneg _ _
    have h2 := Rat.mul_pos (show 0 < -q by grind) hN
    grind
  have hnear := quot_near2 (m <<< more) n (Nat.pos_of_ne_zero hn)
  have hbig : 2 ^ d * n ≤ 2 * (m <<< more) := by
    rw [Nat.shiftLeft_eq]
    have h1 : 2 ^ m.log2 ≤ m := Nat.log2_self_le hm
    have h2 : n < 2 ^ (n.log2 + 1) := Nat.lt_log2_self
    have h3 : 2 ^ d * n ≤ 2 ^ (d + (n.log2 + 1)) := by rw [Nat.pow_add]; exact Nat.mul_le_mul_left _ (Nat.le_of_lt h2)
    have h4 : 2 ^ (d + (n.log2 + 1)) ≤ 2 ^ (m.log2 + more + 1) := Nat.pow_le_pow_right (by decide) (by show _ ≤ m.log2 + (d + n.log2 - m.log2) + 1; omega)
    have h5 : 2 ^ (m.log2 + more + 1) ≤ 2 * (m * 2 ^ more) := by
      rw [Nat.pow_succ, Nat.pow_add, Nat.mul_comm]
      exact Nat.mul_le_mul_left _ (Nat.mul_le_mul_right _ h1)
    omega
  generalize hP : two (i - j - more - 1) = P at *
  have hPp : 0 < P := by rw [← hP]; exact two_pos _
  have u1 := Rat.mul_le_mul_of_nonneg_right (Rat.natCast_le_natCast.2 hnear.1) (Rat.le_of_lt hPp)
  have u2 := Rat.mul_le_mul_of_nonneg_right (Rat.natCast_le_natCast.2 hnear.2) (Rat.le_of_lt hPp)
  have u3 := Rat.mul_le_mul_of_nonneg_right (Rat.natCast_le_natCast.2 hbig) (Rat.le_of_lt hPp)
  rw [← hq2, Rat.natCast_mul, ← two_nat] at u3
  rw [Rat.natCast_add, Rat.add_mul, ← hq2, Rat.natCast_mul] at u1
  rw [← hq2, Rat.natCast_add, Rat.add_mul, Rat.natCast_mul] at u2
  have hd : two (d : Int) * two (-(d : Int)) = 1 := by rw [← two_add]; rw [show (d : Int) + -(d : Int) = 0 by omega]; rfl
  have hdp := two_pos (-(d : Int))
  -- the unit in parts of the quotient
  have u4 : P ≤ q * two (-(d : Int)) := by
    have h1 := Rat.mul_le_mul_of_nonneg_right u3 (Rat.le_of_lt hdp)
    have h2 : two (d : Int) * (n : Rat) * P * two (-(d : Int)) = P * (n : Rat) := by
      rw [show two (d : Int) * (n : Rat) * P * two (-(d : Int)) = (two (d : Int) * two (-(d : Int))) * (P * (n : Rat)) by grind, hd, Rat.one_mul]
    have h3 : q * (n : Rat) * two (-(d : Int)) = q * two (-(d : Int)) * (n : Rat) := by grind
    rw [h2, h3] at h1
    exact Rat.le_of_mul_le_mul_right h1 hnp
  have v1 : (D : Rat) * P ≤ q + P := by
    apply Rat.le_of_mul_le_mul_right _ hnp
    have : (D : Rat) * P * (n : Rat) = (D : Rat) * (n : Rat) * P := by grind
    rw [this, Rat.add_mul]
    have : P * (n : Rat) = (n : Rat) * P := Rat.mul_comm _ _
    rw [this]
    exact u1
  have v2 : q ≤ (D : Rat) * P + P := by
    apply Rat.le_of_mul_le_mul_right _ hnp
    have : ((D : Rat) * P + P) * (n : Rat) = (D : Rat) * (n : Rat) * P + (n : Rat) * P := by grind
    rw [this]
    exact u2
  exact ⟨by grind, by grind⟩
theorem quo_q {q : Rat} (hx : Rv k x a) (hy : Rv k y b) (hb : b ≠ 0) (hq : q * b = a) (h1 : q < two (tp k - 1)) (h2 : -q < two (tp k - 1)) : ∃ r, Rv k (fa .quo k x y) r ∧ Near2 k q r := by
  obtain ⟨s, m, i, e1, rfl⟩ := hx
  obtain ⟨t, n, j, e2, rfl⟩ := hy
  have hn : n ≠ 0 := by
    intro h; subst h
    apply hb; unfold dq sq; simp
  have hnp : (0 : Rat) < (n : Rat) := Rat.natCast_pos.2 (Nat.pos_of_ne_zero hn)
  have hN : (0 : Rat) < (n : Rat) * two j := Rat.mul_pos hnp (two_pos j)
  obtain ⟨p, hp⟩ : ∃ p, p = sq (s ^^ t) q := ⟨_, rfl⟩
  have hqp : q = sq (s ^^ t) p := by rw [hp]; unfold sq; cases (s ^^ t) <;> simp
  have hp2 : p * ((n : Rat) * two j) = (m : Rat) * two i := by
    unfold dq at hq
    rw [hp]
    unfold sq at hq ⊢
    cases s <;> cases t <;> simp at hq ⊢ <;> grind
  have hm := quo_mag m n i j hn p hp2 (k.format.fractionBits + 2)
  simp only [] at hm
  have hp0 : 0 ≤ p := by
    apply Rat.not_lt.1
    intro h
    have h3 : 0 ≤ p * ((n : Rat) * two j) := by rw [hp2]; exact q_nonneg _ _
    have h4 := Rat.mul_pos (show 0 < -p by grind) hN
    grind
  have hpb : p < two (tp k - 1) := by
    rw [hqp] at h1 h2
    unfold sq at h1 h2
    cases (s ^^ t) <;> simp at h1 h2 <;> grind
  generalize hmore : k.format.fractionBits + 2 + n.log2 - m.log2 = more at hm
  generalize hD : 2 * ((m <<< more) / n) + ((m <<< more) % n != 0).toNat = D at hm
  rw [fraction_is] at hm
  have hep := ep_four k
  have he1 := ep_le k
  have he0 := ep_pos k
  have htp : two (tp k) = 2 * two (tp k - 1) := by
    rw [show tp k = 1 + (tp k - 1) by omega, two_add]
    congr 1
    · congr 1; omega
  have hQ0 := q_nonneg D (i - j - more - 1)
  have hpe : p * two (-((fb k + 2 : Nat) : Int)) * 4 = p * ep k := by rw [← hep]; grind
  have hpe1 : p * ep k ≤ p * 1 := Rat.mul_le_mul_of_nonneg_left he1 hp0
  have hpe0 : 0 ≤ p * ep k := Rat.mul_nonneg hp0 (Rat.le_of_lt he0)
  have hQb : (D : Rat) * two (i - j - more - 1) < two (tp k) := by grind
  have hdq : dq (s ^^ t) D (i - j - more - 1) = sq (s ^^ t) ((D : Rat) * two (i - j - more - 1)) := rfl
  obtain ⟨r, g1, g2⟩ := round_q k (s ^^ t) D (i - j - more - 1) (by rw [hdq]; unfold sq; split <;> grind) (by rw [hdq]; unfold sq; split <;> grind)
  refine ⟨r, ?_, ?_⟩
  · unfold fa floatBits Ieee.Format.div
    simp only []
    rw [e1, e2]
    simp only [Ieee.Datum.quotient]
    rw [if_neg hn]
    simp only [Option.map_some, Option.getD_some]
    rw [hmore, hD]
    exact g1
  · rw [hdq] at g2
    generalize (D : Rat) * two (i - j - more - 1) = Q at *
    have hsq := sq_le (s := s ^^ t) hm.1 hm.2
    rw [← hqp] at hsq
    refine ⟨fun c c1 c2 => ?_, fun c c1 c2 => ?_, fun h => ?_, fun h => ?_⟩
    · have hc : p ≤ c := by rw [hqp] at c1 c2; unfold sq at c1 c2; cases (s ^^ t) <;> simp at c1 c2 <;> grind
      have hce : p * ep k ≤ c * ep k := Rat.mul_le_mul_of_nonneg_right hc (Rat.le_of_lt he0)
      have hc2 : Q ≤ c + c * ep k / 4 := by grind
      have := g2.hi (c + c * ep k / 4) (by unfold sq; split <;> grind) (by unfold sq; split <;> grind)
      have hcc : c * ep k * ep k ≤ c * ep k * 1 := Rat.mul_le_mul_of_nonneg_left he1 (by grind)
      grind
    · have hc : p ≤ c := by rw [hqp] at c1 c2; unfold sq at c1 c2; cases (s ^^ t) <;> simp at c1 c2 <;> grind
      have hce : p * ep k ≤ c * ep k := Rat.mul_le_mul_of_nonneg_right hc (Rat.le_of_lt he0)
      have hc2 : Q ≤ c + c * ep k / 4 := by grind
      have := g2.lo (c + c * ep k / 4) (by unfold sq; split <;> grind) (by unfold sq; split <;> grind)
      have hcc : c * ep k * ep k ≤ c * ep k * 1 := Rat.mul_le_mul_of_nonneg_left he1 (by grind)
      grind
    · by_cases hs : (s ^^ t) = true
      · rw [hs] at hqp g2
        unfold sq at hqp g2
        simp only [if_true] at hqp g2
        have hp00 : p = 0 := by grind
        have hQ00 : Q = 0 := by rw [hp00] at hm; grind
        exact g2.pos (by rw [hQ00]; simp [Rat.le_refl])
      · simp only [hs] at g2
        unfold sq at g2
        exact g2.pos (by simpa using hQ0)
    · by_cases hs : (s ^^ t) = true
      · simp only [hs] at g2
        unfold sq at g2
        exact g2.neg (by simp; grind)
      · rw [Bool.not_eq_true] at hs
        rw [hs] at hqp g2
        unfold sq at hqp g2
        simp only [Bool.false_eq_true, if_false] at hqp g2
        have hp00 : p = 0 := by grind
        have hQ00 : Q = 0 := by rw [hp00] at hm; grind
        exact g2.neg (by rw [hQ00]; exact Rat.le_refl)
theorem rootFrom_lt (n : Nat) : ∀ (todo root : Nat), n < (root + 2 ^ todo) * (root + 2 ^ todo) → n < (Ieee.Datum.rootFrom n todo root + 1) * (Ieee.Datum.rootFrom n todo root + 1)
  | 0, root, h => by simpa [Ieee.Datum.rootFrom] using h
  | todo + 1, root, h => by
    unfold Ieee.Datum.rootFrom
    simp only [Nat.shiftLeft_eq, Nat.one_mul]
    apply rootFrom_lt
    by_cases hc : (root + 2 ^ todo) * (root + 2 ^ todo) ≤ n
    · rw [if_pos hc]
      rw [Nat.pow_succ, Nat.mul_two, ← Nat.add_assoc] at h
      exact h
    · rw [if_neg hc]; omega
/-- The root: what its square is near. -/
theorem root_q (hx : Rv k x a) (h0 : 0 ≤ a) (h1 : a < two (tp k)) : ∃ Q r, 0 ≤ Q ∧ Q * Q ≤ a + a * ep k ∧ a ≤ Q * Q + a * ep k ∧ Rv k (rt k x) r ∧ Near k Q r := by
  obtain ⟨s, m, i, e1, rfl⟩ := hx
  unfold rt Ieee.Format.sqrt
  rw [e1]
  simp only [Ieee.Datum.root]
  by_cases hm : m = 0
  · subst hm
    rw [if_pos rfl]
    simp only [Option.map_some, Option.getD_some]
    have hz : dq s 0 i = 0 := by unfold dq sq; simp
    obtain ⟨r, g1, g2⟩ := round_q k s 0 i (by rw [hz]; exact two_pos _) (by rw [hz]; simp; exact two_pos _)
    rw [hz] at g2 ⊢
    exact ⟨0, r, Rat.le_refl, by grind, by grind, g1, g2⟩
  rw [if_neg hm]
  have hmp : 0 < (m : Rat) * two i := Rat.mul_pos (Rat.natCast_pos.2 (Nat.pos_of_ne_zero hm)) (two_pos i)
  have hs : s = false := by
    cases s
    · rfl
    · unfold dq sq at h0; simp at h0; grind
  subst hs
  simp only [Bool.false_eq_true, if_false, Option.map_some, Option.getD_some]
  have hdq : dq false m i = (m : Rat) * two i := rfl
  rw [hdq] at h0 h1 ⊢
  rw [fraction_is]
  obtain ⟨more, hmore⟩ : ∃ more : Nat, (2 * (fb k + 2) - m.log2) + ((i - ((2 * (fb k + 2) - m.log2 : Nat) : Int)) % 2).toNat = more := ⟨_, rfl⟩
  rw [hmore]
  have hle := rootFrom_le (m <<< more) ((m <<< more).log2 / 2 + 1) 0 (Nat.zero_le _)
  have hlt := rootFrom_lt (m <<< more) ((m <<< more).log2 / 2 + 1) 0 (by
    rw [Nat.zero_add, ← Nat.pow_add]
    exact Nat.lt_of_lt_of_le Nat.lt_log2_self (Nat.pow_le_pow_right (by decide) (by omega)))
  generalize Ieee.Datum.rootFrom (m <<< more) ((m <<< more).log2 / 2 + 1) 0 = W at *
  have hbig : 2 ^ (2 * (fb k + 2)) ≤ m <<< more := by
    rw [Nat.shiftLeft_eq]
    have h2 : 2 ^ m.log2 ≤ m := Nat.log2_self_le hm
    refine Nat.le_trans ?_ (Nat.mul_le_mul_right _ h2)
    rw [← Nat.pow_add]
    exact Nat.pow_le_pow_right (by decide) (by omega)
  have hW : 2 ^ (fb k + 2) ≤ W := by
    apply Nat.le_of_not_lt
    intro h
    have h3 : (W + 1) * (W + 1) ≤ 2 ^ (fb k + 2) * 2 ^ (fb k + 2) := Nat.mul_le_mul h h
    rw [← Nat.pow_add, ← Nat.two_mul] at h3
    omega
  obtain ⟨st, hst, hst2⟩ : ∃ st : Nat, (W * W != m <<< more).toNat = st ∧ ((st = 0 ∧ W * W = m <<< more) ∨ (st = 1 ∧ W * W < m <<< more)) := by
    refine ⟨_, rfl, ?_⟩
    by_cases h : W * W = m <<< more
    · left; simp [h]
    · right; refine ⟨by simp [h], by omega⟩
  rw [hst]
  obtain ⟨e, he⟩ : ∃ e : Int, (i - (more : Int)) / 2 = e := ⟨_, rfl⟩
  have hee : i - (more : Int) = e + e := by omega
  rw [he]
  have ha : (m : Rat) * two i = ((m <<< more : Nat) : Rat) * (two e * two e) := by
    rw [Nat.shiftLeft_eq, Rat.natCast_mul, ← two_nat, Rat.mul_assoc, ← two_add, ← two_add]
    congr 2; omega
  rw [ha] at h0 h1 ⊢
  generalize m <<< more = n at *
  -- what is kept, and its square
  have hQ : ((2 * W + st : Nat) : Rat) * two (e - 1) = ((W : Rat) + (st : Rat) / 2) * two e := by
    rw [show e = 1 + (e - 1) by omega, two_add, show (1 + (e - 1) - 1 : Int) = e - 1 by omega, show two 1 = 2 from rfl, Rat.natCast_add, Rat.natCast_mul]
    grind
  have hE := two_pos e
  have hWq : ((2 ^ (fb k + 2) : Nat) : Rat) ≤ (W : Rat) := Rat.natCast_le_natCast.2 hW
  have hn1 : (W : Rat) * (W : Rat) ≤ (n : Rat) := by rw [← Rat.natCast_mul]; exact Rat.natCast_le_natCast.2 hle
  have hW0 : (0 : Rat) ≤ (W : Rat) := Rat.natCast_nonneg
  have hEE : 0 < two e * two e := Rat.mul_pos hE hE
  have hWn : (W : Rat) ≤ (n : Rat) * two (-((fb k + 2 : Nat) : Int)) := by
    have h2 := Rat.mul_le_mul_of_nonneg_right hWq hW0
    have h3 : ((2 ^ (fb k + 2) : Nat) : Rat) * (W : Rat) ≤ (n : Rat) := Rat.le_trans h2 hn1
    have hp := two_pos (-((fb k + 2 : Nat) : Int))
    have h4 := Rat.mul_le_mul_of_nonneg_right h3 (Rat.le_of_lt hp)
    have h5 : ((2 ^ (fb k + 2) : Nat) : Rat) * two (-((fb k + 2 : Nat) : Int)) = 1 := by
      rw [← two_nat, ← two_add, show ((fb k + 2 : Nat) : Int) + -((fb k + 2 : Nat) : Int) = 0 by omega]; rfl
    have h6 : ((2 ^ (fb k + 2) : Nat) : Rat) * (W : Rat) * two (-((fb k + 2 : Nat) : Int)) = (W : Rat) := by
      rw [show ((2 ^ (fb k + 2) : Nat) : Rat) * (W : Rat) * two (-((fb k + 2 : Nat) : Int)) = (((2 ^ (fb k + 2) : Nat) : Rat) * two (-((fb k + 2 : Nat) : Int))) * (W : Rat) by grind, h5, Rat.one_mul]
    rw [h6] at h4
    exact h4
  have hep := ep_four k
  have hn0 : (0 : Rat) ≤ (n : Rat) := Rat.natCast_nonneg
  have he0 := ep_pos k
  have hnep : (n : Rat) * two (-((fb k + 2 : Nat) : Int)) * 4 = (n : Rat) * ep k := by rw [← hep]; grind
  have hne0 : 0 ≤ (n : Rat) * ep k := Rat.mul_nonneg hn0 (Rat.le_of_lt he0)
  have hsq : ((W : Rat) + (st : Rat) / 2) * ((W : Rat) + (st : Rat) / 2) ≤ (n : Rat) + (n : Rat) * ep k ∧ (n : Rat) ≤ ((W : Rat) + (st : Rat) / 2) * ((W : Rat) + (st : Rat) / 2) + (n : Rat) * ep k := by
    rcases hst2 with ⟨rfl, h2⟩ | ⟨rfl, h2⟩
    · have h3 : (W : Rat) * (W : Rat) = (n : Rat) := by rw [← Rat.natCast_mul, h2]
      have h4 : ((W : Rat) + ((0 : Nat) : Rat) / 2) = (W : Rat) := by simp; grind
      rw [h4, h3]
      exact ⟨by grind, by grind⟩
    · have h3 : (n : Rat) ≤ (W : Rat) * (W : Rat) + 2 * (W : Rat) := by
        have : ((n : Nat) : Rat) ≤ ((W * W + 2 * W : Nat) : Rat) := Rat.natCast_le_natCast.2 (by
          have : (W + 1) * (W + 1) = W * W + 2 * W + 1 := by grind
          omega)
        rw [Rat.natCast_add, Rat.natCast_mul, Rat.natCast_mul] at this
        exact this
      have h4 : (W : Rat) * (W : Rat) + 1 ≤ (n : Rat) := by
        have : ((W * W + 1 : Nat) : Rat) ≤ ((n : Nat) : Rat) := Rat.natCast_le_natCast.2 h2
        rw [Rat.natCast_add, Rat.natCast_mul] at this
        exact this
      have h5 : ((W : Rat) + ((1 : Nat) : Rat) / 2) * ((W : Rat) + ((1 : Nat) : Rat) / 2) = (W : Rat) * (W : Rat) + (W : Rat) + 1 / 4 := by
        rw [show ((1 : Nat) : Rat) = 1 from rfl]
        grind
      rw [h5]
      exact ⟨by grind, by grind⟩
  have hQ0 := q_nonneg (2 * W + st) (e - 1)
  have hQQ : (((2 * W + st : Nat) : Rat) * two (e - 1)) * (((2 * W + st : Nat) : Rat) * two (e - 1)) = (((W : Rat) + (st : Rat) / 2) * ((W : Rat) + (st : Rat) / 2)) * (two e * two e) := by
    rw [hQ]; grind
  have hA := Rat.mul_le_mul_of_nonneg_right hsq.1 (Rat.le_of_lt hEE)
  have hB := Rat.mul_le_mul_of_nonneg_right hsq.2 (Rat.le_of_lt hEE)
  rw [← hQQ, Rat.add_mul] at hA
  rw [Rat.add_mul, ← hQQ] at hB
  have hC : (n : Rat) * ep k * (two e * two e) = (n : Rat) * (two e * two e) * ep k := by grind
  rw [hC] at hA hB
  have hQt : ((2 * W + st : Nat) : Rat) * two (e - 1) < two (tp k) := by
    apply Rat.not_le.1
    intro hc
    have h2 : two (tp k) * two (tp k) ≤ (((2 * W + st : Nat) : Rat) * two (e - 1)) * (((2 * W + st : Nat) : Rat) * two (e - 1)) := by
      refine Rat.le_trans (Rat.mul_le_mul_of_nonneg_right hc (Rat.le_of_lt (two_pos _))) (Rat.mul_le_mul_of_nonneg_left hc hQ0)
    have h3 : (n : Rat) * (two e * two e) * ep k ≤ (n : Rat) * (two e * two e) * 1 := Rat.mul_le_mul_of_nonneg_left (ep_le k) h0
    have h4 : two 1 ≤ two (tp k) := two_mono (by cases k <;> decide)
    have h5 := Rat.mul_le_mul_of_nonneg_right h4 (Rat.le_of_lt (two_pos (tp k)))
    rw [show two 1 = 2 from rfl] at h5
    grind
  have hdq2 : dq false (2 * W + st) (e - 1) = ((2 * W + st : Nat) : Rat) * two (e - 1) := rfl
  obtain ⟨r, g1, g2⟩ := round_q k false (2 * W + st) (e - 1) (by rw [hdq2]; exact hQt) (by rw [hdq2]; have := two_pos (tp k); grind)
  rw [hdq2] at g2
  exact ⟨_, r, hQ0, hA, hB, g1, g2⟩
end
end Go.Fl
