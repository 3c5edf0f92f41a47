/- Floats: what they stand for, and how far the operations are from exact ones. -/
import Derived.Test.YtmpmnhnobgidoaaNE
namespace Go.Fl
set_option linter.unusedSimpArgs false
set_option linter.unusedVariables false
open Go Go.RowKit

/-- The unit: a number times this is whole. -/
def U64 : Int := ((2 ^ K64 : Nat) : Int)
theorem U_pos : 0 < U64 := by unfold U64; have := Nat.two_pow_pos K64; omega
def sg (neg : Bool) (n : Nat) : Int := if neg then -(n : Int) else n
/-- A 64-bit number that is finite, and what it stands for, in units. -/
def Val (x : Nat) (v : Int) : Prop := ∃ s m e, Ieee.double.read x = .number s m e ∧ -1074 ≤ e ∧ sg s (sc K64 m e) = v
theorem sg_le (neg : Bool) {a b c : Nat} (h1 : a ≤ b + c) (h2 : b ≤ a + c) : sg neg a ≤ sg neg b + c ∧ sg neg b ≤ sg neg a + c := by
  unfold sg; cases neg <;> simp <;> omega
theorem sg_mul (neg : Bool) (a c : Nat) : sg neg (a * c) = sg neg a * (c : Int) := by
  unfold sg; cases neg <;> simp [Int.neg_mul]
theorem sc_split (K : Nat) (hK : 1074 ≤ K) (m : Nat) (e : Int) (he : -1074 ≤ e) : sc K m e = sc K64 m e * 2 ^ (K - 1074) := by
  have a1 : (e + (K64 : Nat)).toNat = (e + 1074).toNat := rfl
  have a2 : (e + (K : Int)).toNat = (e + 1074).toNat + (K - 1074) := by omega
  unfold sc
  rw [a1, a2, Nat.mul_assoc, ← Nat.pow_add]
theorem pow_int (n : Nat) : (((2 ^ n : Nat) : Nat) : Int) = (2 : Int) ^ n := by push_cast; rfl
theorem pow_K' (F : Nat) : ((2 ^ (F + K64) : Nat) : Int) = 2 ^ F * U64 := by
  unfold U64
  rw [Nat.pow_add, Int.natCast_mul, pow_int F]
theorem pow_K (F : Nat) : ((2 ^ (F + 1074) : Nat) : Int) = 2 ^ F * U64 := pow_K' F
theorem quo_up {n r v G T X : Int} (hT : 0 < T) (h : n * (r * T) ≤ v * T + n * (G * T) + X) (hX : X ≤ n * (G * T)) : n * r ≤ v + n * (G + G) := by
  apply Int.le_of_mul_le_mul_right _ hT
  have e1 : n * r * T = n * (r * T) := by grind
  have e2 : (v + n * (G + G)) * T = v * T + n * (G * T) + n * (G * T) := by grind
  rw [e1, e2]
  omega
theorem quo_dn {n r v G T X : Int} (hT : 0 < T) (h : v * T ≤ n * (r * T) + n * (G * T) + X) (hX : X ≤ n * (G * T)) : v ≤ n * r + n * (G + G) := by
  apply Int.le_of_mul_le_mul_right _ hT
  have e2 : (n * r + n * (G + G)) * T = n * (r * T) + n * (G * T) + n * (G * T) := by grind
  rw [e2]
  omega
theorem nearest_val (neg : Bool) (mag : Nat) (place : Int) (E F K : Nat) (hF : E = F + 54) (hE2 : E ≤ 1023) (hK : 1074 ≤ K) (hp : -(K : Int) ≤ place) (h : sc K mag place < 2 ^ (E + K)) :
    ∃ r : Int, Val (Ieee.double.nearest neg mag place) r ∧ r * ((2 ^ (K - 1074) : Nat) : Int) ≤ sg neg (sc K mag place) + ((2 ^ (F + K) : Nat) : Int) ∧ sg neg (sc K mag place) ≤ r * ((2 ^ (K - 1074) : Nat) : Int) + ((2 ^ (F + K) : Nat) : Int) ∧ (neg = false → 0 ≤ r) := by
  have hl : mag = 0 ∨ place + (mag.log2 : Int) < (E : Int) := by
    by_cases h0 : mag = 0
    · exact .inl h0
    · right
      have h1 : 2 ^ mag.log2 * 2 ^ (place + K).toNat ≤ sc K mag place := Nat.mul_le_mul_right _ (Nat.log2_self_le h0)
      rw [← Nat.pow_add] at h1
      have h2 := (Nat.pow_lt_pow_iff_right (a := 2) (by decide)).1 (Nat.lt_of_le_of_lt h1 h)
      omega
  obtain ⟨m, e, h1, h2, h3, h4⟩ := nearest_err neg mag place (E : Int) K hK hp hl (by omega) (by omega)
  rw [show ((E : Int) - 54 + K).toNat = F + K by omega] at h3 h4
  refine ⟨sg neg (sc K64 m e), ⟨neg, m, e, h1, h2, rfl⟩, ?_⟩
  rw [← sg_mul, ← sc_split K hK m e h2]
  have := sg_le neg h3 h4
  exact ⟨this.1, this.2, fun hn => by rw [hn]; unfold sg; simp⟩
theorem val_read {x : Nat} {v : Int} (h : Val x v) : ∃ s m e, FloatKind.f64.format.read x = .number s m e ∧ -1074 ≤ e ∧ sg s (sc K64 m e) = v := h
theorem signed_sg (s : Bool) (m up : Nat) : Ieee.signed s m up = sg s (m <<< up) := rfl
theorem signed_val (s : Bool) (m : Nat) (e base : Int) (h1 : -1074 ≤ base) (h2 : base ≤ e) : Ieee.signed s m (e - base).toNat * ((2 ^ (base + 1074).toNat : Nat) : Int) = sg s (sc K64 m e) := by
  rw [signed_sg, ← sg_mul]
  congr 1
  unfold sc
  rw [Nat.shiftLeft_eq, Nat.mul_assoc, ← Nat.pow_add]
  congr 2
  show _ = (e + 1074).toNat
  omega
theorem sum_val {x y : Nat} {v u : Int} (b : Bool) (E F : Nat) (hF : E = F + 54) (hE2 : E ≤ 1023) (hx : Val x v) (hy : Val y u) (hb : (v + if b then -u else u) < 2 ^ E * U64 ∧ -(2 ^ E * U64) < (v + if b then -u else u)) :
    ∃ r, Val (fa (if b then .sub else .add) .f64 x y) r ∧ r ≤ (v + if b then -u else u) + 2 ^ F * U64 ∧ (v + if b then -u else u) ≤ r + 2 ^ F * U64 := by
  obtain ⟨s, m, i, h1, h2, rfl⟩ := val_read hx
  obtain ⟨t, n, j, g1, g2, rfl⟩ := val_read hy
  have key : ∀ t' : Bool, sg t' (sc K64 n j) = (if b then -sg t (sc K64 n j) else sg t (sc K64 n j)) →
      ∃ r, Val (FloatKind.f64.format.write (.number (if Ieee.signed s m (i - min i j).toNat + Ieee.signed t' n (j - min i j).toNat = 0 then s && t' else decide (Ieee.signed s m (i - min i j).toNat + Ieee.signed t' n (j - min i j).toNat < 0)) (Ieee.signed s m (i - min i j).toNat + Ieee.signed t' n (j - min i j).toNat).natAbs (min i j))) r ∧
        r ≤ (sg s (sc K64 m i) + if b then -sg t (sc K64 n j) else sg t (sc K64 n j)) + 2 ^ F * U64 ∧ (sg s (sc K64 m i) + if b then -sg t (sc K64 n j) else sg t (sc K64 n j)) ≤ r + 2 ^ F * U64 := by
    intro t' ht
    rw [← ht] at hb ⊢
    rw [← signed_val s m i (min i j) (by omega) (by omega), ← signed_val t' n j (min i j) (by omega) (by omega), ← Int.add_mul] at hb ⊢
    generalize Ieee.signed s m (i - min i j).toNat + Ieee.signed t' n (j - min i j).toNat = total at hb ⊢
    have hbase : -1074 ≤ min i j := by omega
    generalize min i j = base at *
    have hsc : (sc 1074 total.natAbs base : Nat) = total.natAbs * 2 ^ (base + 1074).toNat := rfl
    have habs : ((sc 1074 total.natAbs base : Nat) : Int) < 2 ^ E * U64 := by
      rw [hsc]
      push_cast
      rcases Int.natAbs_eq total with h | h
      · rw [h] at hb
        have := hb.1
        push_cast at this
        exact this
      · rw [h] at hb
        have := hb.2
        push_cast at this
        rw [Int.neg_mul] at this
        omega
    have hlt : sc 1074 total.natAbs base < 2 ^ (E + 1074) := by
      exact Int.ofNat_lt.1 (by rw [pow_K]; exact habs)
    show ∃ r, Val (Ieee.double.nearest _ _ _) r ∧ _
    obtain ⟨r, k1, k2, k3, -⟩ := nearest_val (if total = 0 then s && t' else decide (total < 0)) total.natAbs base E F 1074 hF hE2 (Nat.le_refl _) (by omega) hlt
    refine ⟨r, k1, ?_⟩
    rw [Nat.sub_self, Nat.pow_zero, Int.natCast_one, Int.mul_one] at k2 k3
    have hsg : sg (if total = 0 then s && t' else decide (total < 0)) (sc 1074 total.natAbs base) = total * ((2 ^ (base + 1074).toNat : Nat) : Int) := by
      rw [hsc, sg_mul]
      congr 1
      unfold sg
      by_cases h0 : total = 0
      · subst h0; simp
      · rw [if_neg h0]
        by_cases hn : total < 0
        · simp [hn]; omega
        · simp [hn]; omega
    rw [hsg] at k2 k3
    rw [pow_K] at k2 k3
    exact ⟨k2, k3⟩
  cases b
  · have := key t rfl
    unfold fa floatBits Ieee.Format.add
    simp only [Bool.false_eq_true, if_false]
    rw [h1, g1]
    simp only [Ieee.Datum.sum, Option.map_some, Option.getD_some]
    exact this
  · have := key (!t) (by unfold sg; cases t <;> simp)
    unfold fa floatBits Ieee.Format.sub
    simp only [if_true]
    rw [h1, g1]
    simp only [Ieee.Datum.opposite, Ieee.Datum.sum, Option.map_some, Option.getD_some]
    exact this
theorem add_val {x y : Nat} {v u : Int} (E F : Nat) (hF : E = F + 54) (hE2 : E ≤ 1023) (hx : Val x v) (hy : Val y u) (hb : (v + u) < 2 ^ E * U64 ∧ -(2 ^ E * U64) < (v + u)) :
    ∃ r, Val (fa .add .f64 x y) r ∧ r ≤ (v + u) + 2 ^ F * U64 ∧ (v + u) ≤ r + 2 ^ F * U64 := by
  have := sum_val false E F hF hE2 hx hy (by simpa using hb)
  simpa using this
theorem sub_val {x y : Nat} {v u : Int} (E F : Nat) (hF : E = F + 54) (hE2 : E ≤ 1023) (hx : Val x v) (hy : Val y u) (hb : (v - u) < 2 ^ E * U64 ∧ -(2 ^ E * U64) < (v - u)) :
    ∃ r, Val (fa .sub .f64 x y) r ∧ r ≤ (v - u) + 2 ^ F * U64 ∧ (v - u) ≤ r + 2 ^ F * U64 := by
  have := sum_val true E F hF hE2 hx hy (by simpa [Int.sub_eq_add_neg] using hb)
  simpa [Int.sub_eq_add_neg] using this
/-- Twice the unit's exponent. -/
def K2 : Nat := K64 + K64
theorem sc_mul (m n : Nat) (i j : Int) (hi : -1074 ≤ i) (hj : -1074 ≤ j) : sc K2 (m * n) (i + j) = sc K64 m i * sc K64 n j := by
  unfold sc
  have a1 : (i + j + (K2 : Nat)).toNat = (i + (K64 : Nat)).toNat + (j + (K64 : Nat)).toNat := by
    have : (K64 : Int) = 1074 := rfl
    have : (K2 : Int) = 2148 := rfl
    omega
  rw [a1, Nat.pow_add, Nat.mul_mul_mul_comm]
theorem mul_val {x y : Nat} {v u : Int} (E F : Nat) (hF : E = F + 54) (hE2 : E ≤ 1023) (hx : Val x v) (hy : Val y u) (hb : v * u < 2 ^ E * (U64 * U64) ∧ -(2 ^ E * (U64 * U64)) < v * u) :
    ∃ r, Val (fa .mul .f64 x y) r ∧ r * U64 ≤ v * u + 2 ^ F * (U64 * U64) ∧ v * u ≤ r * U64 + 2 ^ F * (U64 * U64) := by
  obtain ⟨s, m, i, h1, h2, rfl⟩ := val_read hx
  obtain ⟨t, n, j, g1, g2, rfl⟩ := val_read hy
  have hsgn : sg s (sc K64 m i) * sg t (sc K64 n j) = sg (s ^^ t) (sc K2 (m * n) (i + j)) := by
    rw [sc_mul m n i j h2 g2]
    unfold sg
    cases s <;> cases t <;> simp [Int.neg_mul, Int.mul_neg]
  rw [hsgn] at hb ⊢
  have hK2 : 1074 ≤ K2 := by decide
  have hpU : ∀ G : Nat, ((2 ^ (G + K2) : Nat) : Int) = 2 ^ G * (U64 * U64) := by
    intro G
    unfold U64 K2
    rw [Nat.pow_add, Nat.pow_add, Int.natCast_mul, Int.natCast_mul, pow_int G]
  have hlt : sc K2 (m * n) (i + j) < 2 ^ (E + K2) := by
    apply Int.ofNat_lt.1
    rw [hpU]
    unfold sg at hb
    cases hst : s ^^ t <;> rw [hst] at hb
    · simpa using hb.1
    · have := hb.2
      simp only [if_true] at this
      omega
  have hread : fa .mul .f64 x y = Ieee.double.nearest (s ^^ t) (m * n) (i + j) := by
    unfold fa floatBits Ieee.Format.mul
    rw [h1, g1]
    simp only [Ieee.Datum.product]
    simp only [Option.map_some]
    rw [Option.getD_some]
    rfl
  rw [hread]
  obtain ⟨r, k1, k2, k3, -⟩ := nearest_val (s ^^ t) (m * n) (i + j) E F K2 hF hE2 hK2 (by have : (K2 : Int) = 2148 := rfl; omega) hlt
  have hU : ((2 ^ (K2 - 1074) : Nat) : Int) = U64 := by
    unfold U64
    rw [show K2 - 1074 = K64 from rfl]
  rw [hU, hpU] at k2 k3
  exact ⟨r, k1, k2, k3⟩
theorem quot_near (a n : Nat) (hn : 0 < n) : (2 * (a / n) + (a % n != 0).toNat) * n ≤ 2 * a + n ∧ 2 * a ≤ (2 * (a / n) + (a % n != 0).toNat) * n + n := by
  have h1 := Nat.div_add_mod a n
  have h2 := Nat.mod_lt a hn
  rw [Nat.mul_comm] at h1
  rw [Nat.add_mul, Nat.mul_assoc]
  by_cases h0 : a % n = 0
  · rw [h0] at h1 ⊢
    simp only [bne_self_eq_false, Bool.toNat_false, Nat.zero_mul]
    omega
  · rw [show (a % n != 0) = true from bne_iff_ne.2 h0]
    simp only [Bool.toNat_true, Nat.one_mul]
    omega
theorem log_of_lt {m : Nat} {e : Int} {E : Nat} (h0 : m ≠ 0) (he : -1074 ≤ e) (h : sc K64 m e < 2 ^ E * 2 ^ K64) : e + (m.log2 : Int) < E := by
  have h1 : 2 ^ m.log2 * 2 ^ (e + K64).toNat ≤ sc K64 m e := Nat.mul_le_mul_right _ (Nat.log2_self_le h0)
  rw [← Nat.pow_add] at h1
  rw [← Nat.pow_add] at h
  have h2 := (Nat.pow_lt_pow_iff_right (a := 2) (by decide)).1 (Nat.lt_of_le_of_lt h1 h)
  have : (K64 : Int) = 1074 := rfl
  omega
theorem log_of_ge {m : Nat} {e : Int} (he : -1074 ≤ e) (h : 2 ^ K64 ≤ sc K64 m e) : 0 ≤ e + (m.log2 : Int) := by
  have h0 : m < 2 ^ (m.log2 + 1) := Nat.lt_log2_self
  have h1 : sc K64 m e < 2 ^ (m.log2 + 1) * 2 ^ (e + K64).toNat := Nat.mul_lt_mul_of_pos_right h0 (Nat.two_pow_pos _)
  rw [← Nat.pow_add] at h1
  have h2 := (Nat.pow_lt_pow_iff_right (a := 2) (by decide)).1 (Nat.lt_of_le_of_lt h h1)
  have : (K64 : Int) = 1074 := rfl
  omega
theorem sg_abs {s : Bool} {a b : Nat} (h1 : sg s a < (b : Int)) (h2 : -(b : Int) < sg s a) : a < b := by
  unfold sg at h1 h2
  cases s <;> simp at h1 h2 <;> omega
theorem pow_U (E : Nat) : (2 : Int) ^ E * U64 = ((2 ^ E * 2 ^ K64 : Nat) : Int) := by
  unfold U64
  rw [Int.natCast_mul, pow_int E]
theorem near_mul {s : Bool} {a b n c : Nat} {r L : Int} (h1 : r ≤ sg s a + L) (h2 : sg s a ≤ r + L) (g1 : a * n ≤ b + c) (g2 : b ≤ a * n + c) : (n : Int) * r ≤ sg s b + (n : Int) * L + c ∧ sg s b ≤ (n : Int) * r + (n : Int) * L + c := by
  have k1 := Int.mul_le_mul_of_nonneg_left h1 (show (0 : Int) ≤ n by omega)
  have k2 := Int.mul_le_mul_of_nonneg_left h2 (show (0 : Int) ≤ n by omega)
  rw [Int.mul_add] at k1 k2
  have e : (n : Int) * sg s a = sg s (a * n) := by rw [sg_mul, Int.mul_comm]
  rw [e] at k1 k2
  have := sg_le s g1 g2
  omega
/-- A quotient by a whole number. -/
theorem quo_val {x : Nat} {v : Int} (n : Nat) (hn : 1 ≤ n) (hn2 : n.log2 ≤ 23) (E F : Nat) (hF : E = F + 54) (hE2 : E + 1 ≤ 1023) (hx : Val x v) (hb : v < 2 ^ E * U64 ∧ -(2 ^ E * U64) < v) :
    ∃ r, Val (fa .quo .f64 x (floatOfInt .f64 (n : Int))) r ∧ (n : Int) * r ≤ v + (n : Int) * (2 ^ (F + 2) * U64) ∧ v ≤ (n : Int) * r + (n : Int) * (2 ^ (F + 2) * U64) := by
  obtain ⟨s, m, i, h1, h2, rfl⟩ := val_read hx
  obtain ⟨n', j, g1, g2, g3⟩ := ofInt_read64 n hn2
  have hn'0 : n' ≠ 0 := by
    intro h
    subst h
    unfold sc at g3
    rw [Nat.zero_mul] at g3
    have := Nat.mul_ne_zero (show n ≠ 0 by omega) (Nat.pos_iff_ne_zero.1 (Nat.two_pow_pos K64))
    omega
  have hj : 0 ≤ j + (n'.log2 : Int) := log_of_ge g2 (by rw [g3]; exact Nat.le_mul_of_pos_left _ hn)
  have hread : fa .quo .f64 x (floatOfInt .f64 (n : Int)) = Ieee.double.nearest s (2 * ((m <<< (54 + n'.log2 - m.log2)) / n') + ((m <<< (54 + n'.log2 - m.log2)) % n' != 0).toNat) (i - j - ((54 + n'.log2 - m.log2 : Nat) : Int) - 1) := by
    unfold fa floatBits Ieee.Format.div
    rw [h1, show FloatKind.f64.format.read (floatOfInt .f64 (n : Int)) = .number false n' j from g1]
    simp only [Ieee.Datum.quotient]
    rw [if_neg hn'0]
    simp only [Option.map_some]
    rw [Option.getD_some, Bool.xor_false]
    rfl
  rw [hread]
  rw [pow_U] at hb
  have habs : sc K64 m i < 2 ^ E * 2 ^ K64 := sg_abs hb.1 hb.2
  have hp : m = 0 ∨ i - j - ((54 + n'.log2 - m.log2 : Nat) : Int) - 1 < (F : Int) := by
    by_cases h0 : m = 0
    · exact .inl h0
    · right
      have := log_of_lt h0 h2 habs
      omega
  have hqn := quot_near (m <<< (54 + n'.log2 - m.log2)) n' (Nat.pos_of_ne_zero hn'0)
  have hshift : m <<< (54 + n'.log2 - m.log2) = m * 2 ^ (54 + n'.log2 - m.log2) := Nat.shiftLeft_eq _ _
  rw [hshift] at hqn ⊢
  by_cases hm0 : m = 0
  · subst hm0
    refine ⟨0, ?_, ?_⟩
    · rw [Nat.zero_mul, Nat.zero_div, Nat.zero_mod]
      refine ⟨s, 0, -1074, ?_, Int.le_refl _, by unfold sg sc; rw [Nat.zero_mul]; simp⟩
      exact nearest_zero _ _ _
    · have : sg s (sc K64 0 i) = 0 := by unfold sg sc; rw [Nat.zero_mul]; simp
      rw [this]
      have := Int.mul_nonneg (show (0 : Int) ≤ n by omega) (Int.mul_nonneg (Int.pow_nonneg (show (0 : Int) ≤ 2 by decide)) (Int.le_of_lt U_pos) : (0 : Int) ≤ 2 ^ (F + 2) * U64)
      omega
  replace hp := hp.resolve_left hm0
  generalize hmore : 54 + n'.log2 - m.log2 = more at *
  generalize hD : 2 * ((m * 2 ^ more) / n') + ((m * 2 ^ more) % n' != 0).toNat = D at *
  generalize hpp : i - j - (more : Int) - 1 = p at *
  obtain ⟨L, hL1, hL2⟩ : ∃ L : Nat, -(((K64 + L : Nat)) : Int) ≤ p ∧ 0 ≤ (L : Int) + p := ⟨p.natAbs, by omega, by omega⟩
  have hKc : (((K64 + L : Nat)) : Int) = 1074 + L := by have : (K64 : Int) = 1074 := rfl; omega
  -- in units of 2 to the power of -K
  have hs1 : sc (K64 + L) D p = D * 2 ^ (p + 1074 + L).toNat := by
    unfold sc
    rw [hKc, show p + (1074 + (L : Int)) = p + 1074 + L by omega]
  have hJ : n' * 2 ^ (j + 1074).toNat = n * 2 ^ K64 := g3
  have hM : (m * 2 ^ more) * 2 * 2 ^ (p + 1074 + L).toNat * 2 ^ (j + 1074).toNat = sc K64 m i * 2 ^ L * 2 ^ K64 := by
    unfold sc
    rw [show (i + ((K64 : Nat) : Int)).toNat = (i + 1074).toNat from rfl]
    have e1 : more + 1 + (p + 1074 + L).toNat + (j + 1074).toNat = (i + 1074).toNat + L + K64 := by
      have : (K64 : Int) = 1074 := rfl
      omega
    calc (m * 2 ^ more) * 2 * 2 ^ (p + 1074 + L).toNat * 2 ^ (j + 1074).toNat = m * (2 ^ more * 2 ^ 1 * 2 ^ (p + 1074 + L).toNat * 2 ^ (j + 1074).toNat) := by rw [Nat.pow_one]; simp only [Nat.mul_assoc]
      _ = m * 2 ^ (more + 1 + (p + 1074 + L).toNat + (j + 1074).toNat) := by rw [← Nat.pow_add, ← Nat.pow_add, ← Nat.pow_add]
      _ = m * (2 ^ (i + 1074).toNat * 2 ^ L * 2 ^ K64) := by rw [e1, Nat.pow_add, Nat.pow_add]
      _ = _ := by simp only [Nat.mul_assoc]
  have hn1 : sc (K64 + L) D p * n ≤ sc K64 m i * 2 ^ L + n * 2 ^ (p + 1074 + L).toNat ∧ sc K64 m i * 2 ^ L ≤ sc (K64 + L) D p * n + n * 2 ^ (p + 1074 + L).toNat := by
    have e2 : sc (K64 + L) D p * n * 2 ^ K64 = D * n' * 2 ^ (p + 1074 + L).toNat * 2 ^ (j + 1074).toNat := by
      rw [hs1, Nat.mul_assoc _ n, ← hJ]
      simp only [Nat.mul_assoc, Nat.mul_comm, Nat.mul_left_comm]
    have e3 : n * 2 ^ (p + 1074 + L).toNat * 2 ^ K64 = n' * 2 ^ (p + 1074 + L).toNat * 2 ^ (j + 1074).toNat := by
      rw [Nat.mul_right_comm, ← hJ, Nat.mul_right_comm]
    have q1 := Nat.mul_le_mul_right (2 ^ (j + 1074).toNat) (Nat.mul_le_mul_right (2 ^ (p + 1074 + (L : Int)).toNat) hqn.1)
    have q2 := Nat.mul_le_mul_right (2 ^ (j + 1074).toNat) (Nat.mul_le_mul_right (2 ^ (p + 1074 + (L : Int)).toNat) hqn.2)
    rw [Nat.add_mul, Nat.add_mul, Nat.mul_comm 2 (m * 2 ^ more), hM, ← e2, ← e3, ← Nat.add_mul] at q1 q2
    exact ⟨Nat.le_of_mul_le_mul_right q1 (Nat.two_pow_pos _), Nat.le_of_mul_le_mul_right q2 (Nat.two_pow_pos _)⟩
  have hP : 2 ^ (p + 1074 + L).toNat ≤ 2 ^ (F + (K64 + L)) := Nat.pow_le_pow_right (by decide) (by have : (K64 : Int) = 1074 := rfl; omega)
  have hlt : sc (K64 + L) D p < 2 ^ (E + 1 + (K64 + L)) := by
    apply Nat.lt_of_mul_lt_mul_right (a := n)
    have u1 : sc K64 m i * 2 ^ L < 2 ^ (E + (K64 + L)) := by
      rw [← Nat.add_assoc, Nat.pow_add _ _ L, Nat.pow_add]
      exact Nat.mul_lt_mul_of_pos_right habs (Nat.two_pow_pos _)
    have u2 : n * 2 ^ (p + 1074 + L).toNat ≤ n * 2 ^ (E + (K64 + L)) := Nat.mul_le_mul_left _ (Nat.le_trans hP (Nat.pow_le_pow_right (by decide) (by omega)))
    have u3 : 2 ^ (E + 1 + (K64 + L)) * n = n * 2 ^ (E + (K64 + L)) + n * 2 ^ (E + (K64 + L)) := by
      rw [show E + 1 + (K64 + L) = (E + (K64 + L)) + 1 by omega, Nat.pow_succ, Nat.mul_comm]
      rw [Nat.mul_two, Nat.mul_add]
    have u4 : 2 ^ (E + (K64 + L)) ≤ n * 2 ^ (E + (K64 + L)) := Nat.le_mul_of_pos_left _ hn
    omega
  obtain ⟨r, k1, k2, k3, -⟩ := nearest_val s D p (E + 1) (F + 1) (K64 + L) (by omega) hE2 (Nat.le_add_right _ _) hL1 hlt
  refine ⟨r, k1, ?_⟩
  rw [show K64 + L - 1074 = L from Nat.add_sub_cancel_left ..] at k2 k3
  obtain ⟨w1, w2⟩ := near_mul k2 k3 hn1.1 hn1.2
  have hpos : (0 : Int) < ((2 ^ L : Nat) : Int) := by have := Nat.two_pow_pos L; omega
  have c1 : ((2 ^ (F + 1 + (K64 + L)) : Nat) : Int) = 2 ^ (F + 1) * U64 * ((2 ^ L : Nat) : Int) := by
    rw [← Nat.add_assoc, Nat.pow_add _ _ L, Int.natCast_mul]
    rw [pow_K']
  have c2 : ((n * 2 ^ (p + 1074 + L).toNat : Nat) : Int) ≤ (n : Int) * (2 ^ (F + 1) * U64 * ((2 ^ L : Nat) : Int)) := by
    rw [← c1, Int.natCast_mul]
    refine Int.mul_le_mul_of_nonneg_left ?_ (by omega)
    refine Int.ofNat_le.2 (Nat.le_trans hP (Nat.pow_le_pow_right (by decide) (by omega)))
  have c3 : sg s (sc K64 m i * 2 ^ L) = sg s (sc K64 m i) * ((2 ^ L : Nat) : Int) := sg_mul _ _ _
  have c4 : (2 : Int) ^ (F + 2) = 2 ^ (F + 1) + 2 ^ (F + 1) := by rw [show F + 2 = (F + 1) + 1 from rfl, Int.pow_succ]; omega
  rw [c3, c1] at w1 w2
  rw [c4, Int.add_mul]
  exact ⟨quo_up hpos w1 c2, quo_dn hpos w2 c2⟩

theorem p3 (m a b c d : Nat) : m * 2 ^ a * (2 ^ b * 2 ^ c * 2 ^ d) = m * 2 ^ (a + (b + c + d)) := by rw [Nat.pow_add, Nat.pow_add, Nat.pow_add, Nat.mul_assoc]
theorem p4 (m a b c d : Nat) : m * 2 ^ a * 2 ^ b * (2 ^ c * 2 ^ d) = m * 2 ^ (a + b + (c + d)) := by rw [Nat.pow_add, Nat.pow_add, Nat.pow_add, Nat.mul_assoc, Nat.mul_assoc, Nat.mul_assoc]
/-- The root: not far above what its square is below. -/
theorem root_val {x : Nat} {v B : Int} (E F : Nat) (hF : E = F + 54) (hE2 : E + 1 ≤ 1023) (hx : Val x v) (hB : 0 ≤ B) (hvB : v * U64 ≤ B * B) (hb : B < 2 ^ E * U64) :
    isNan .f64 (rt .f64 x) = true ∨ ∃ r, Val (rt .f64 x) r ∧ 0 ≤ r ∧ r ≤ B + 2 ^ (F + 2) * U64 := by
  obtain ⟨s, m, i, h1, h2, rfl⟩ := val_read hx
  have hUp := U_pos
  unfold rt Ieee.Format.sqrt
  rw [h1]
  simp only [Ieee.Datum.root]
  by_cases hm0 : m = 0
  · right
    subst hm0
    rw [if_pos rfl]
    simp only [Option.map_some]
    rw [Option.getD_some]
    refine ⟨0, ⟨s, 0, -1074, ?_, Int.le_refl _, by unfold sg sc; rw [Nat.zero_mul]; simp⟩, Int.le_refl _, ?_⟩
    · exact nearest_zero Ieee.double s i
    · have := Int.mul_nonneg (Int.pow_nonneg (show (0 : Int) ≤ 2 by decide)) (Int.le_of_lt U_pos) (a := (2 : Int) ^ (F + 2))
      omega
  rw [if_neg hm0]
  cases s
  case true =>
    left
    simp only [if_true, Option.map_none]
    rw [Option.getD_none]
    exact isNan_qn _
  right
  simp only [Bool.false_eq_true, if_false, Option.map_some]
  rw [Option.getD_some]
  have hfb : FloatKind.f64.format.fractionBits = 52 := rfl
  rw [hfb]
  obtain ⟨more, hmore⟩ : ∃ more : Nat, (2 * (52 + 2) - m.log2) + ((i - ((2 * (52 + 2) - m.log2 : Nat) : Int)) % 2).toNat = more := ⟨_, rfl⟩
  rw [hmore]
  have hle := rootFrom_le (m <<< more) ((m <<< more).log2 / 2 + 1) 0 (Nat.zero_le _)
  obtain ⟨W, hW⟩ : ∃ W : Nat, Ieee.Datum.rootFrom (m <<< more) ((m <<< more).log2 / 2 + 1) 0 = W := ⟨_, rfl⟩
  rw [hW] at hle ⊢
  obtain ⟨st, hst⟩ : ∃ st : Nat, (W * W != m <<< more).toNat = st ∧ st ≤ 1 := ⟨_, rfl, by cases (W * W != m <<< more) <;> decide⟩
  rw [hst.1]
  have hst1 := hst.2
  clear hst hW
  have hval : sg false (sc K64 m i) = ((sc K64 m i : Nat) : Int) := rfl
  rw [hval] at hvB
  -- how great the number is
  obtain ⟨b, rfl⟩ : ∃ b : Nat, B = (b : Int) := ⟨B.toNat, by omega⟩
  rw [pow_U] at hb
  have hb' : b < 2 ^ E * 2 ^ K64 := Int.ofNat_lt.1 hb
  have hvb : sc K64 m i * 2 ^ K64 ≤ b * b := by
    apply Int.ofNat_le.1
    unfold U64 at hvB
    rw [Int.natCast_mul, Int.natCast_mul]
    exact hvB
  have hilt : i + (m.log2 : Int) < ((2 * E : Nat) : Int) := by
    refine log_of_lt hm0 h2 ?_
    have h3 : b * b < (2 ^ E * 2 ^ K64) * (2 ^ E * 2 ^ K64) := Nat.mul_lt_mul'' hb' hb'
    have h4 : (2 ^ E * 2 ^ K64) * (2 ^ E * 2 ^ K64) = 2 ^ (2 * E) * 2 ^ K64 * 2 ^ K64 := by
      rw [Nat.two_mul, Nat.pow_add]
      simp only [Nat.mul_assoc, Nat.mul_comm, Nat.mul_left_comm]
    rw [h4] at h3
    exact Nat.lt_of_mul_lt_mul_right (a := 2 ^ K64) (Nat.lt_of_le_of_lt hvb h3)
  have heven : (i - (more : Int)) / 2 * 2 = i - more := by omega
  have hqF : (i - (more : Int)) / 2 - 1 < (F : Int) := by omega
  generalize hq : (i - (more : Int)) / 2 - 1 = q at *
  obtain ⟨L, hL1, hL2⟩ : ∃ L : Nat, -(((K64 + L : Nat)) : Int) ≤ q ∧ 0 ≤ (L : Int) + q := ⟨q.natAbs, by omega, by omega⟩
  have hKc : (((K64 + L : Nat)) : Int) = 1074 + L := by have : (K64 : Int) = 1074 := rfl; omega
  have hs1 : sc (K64 + L) (2 * W + st) q = (2 * W + st) * 2 ^ (q + 1074 + L).toNat := by
    unfold sc
    rw [hKc, show q + (1074 + (L : Int)) = q + 1074 + L by omega]
  have hQ : 2 ^ (q + 1074 + L).toNat ≤ 2 ^ (F + (K64 + L)) := Nat.pow_le_pow_right (by decide) (by have : (K64 : Int) = 1074 := rfl; omega)
  have hsq : (2 * W * 2 ^ (q + 1074 + L).toNat) * (2 * W * 2 ^ (q + 1074 + L).toNat) ≤ (b * 2 ^ L) * (b * 2 ^ L) := by
    have e1 : (2 * W * 2 ^ (q + 1074 + L).toNat) * (2 * W * 2 ^ (q + 1074 + L).toNat) = (W * W) * (2 ^ 2 * 2 ^ (q + 1074 + L).toNat * 2 ^ (q + 1074 + L).toNat) := by
      rw [show (2 : Nat) ^ 2 = 2 * 2 from rfl]
      simp only [Nat.mul_assoc, Nat.mul_comm, Nat.mul_left_comm]
    have e2 : (m <<< more) * (2 ^ 2 * 2 ^ (q + 1074 + L).toNat * 2 ^ (q + 1074 + L).toNat) = sc K64 m i * 2 ^ K64 * (2 ^ L * 2 ^ L) := by
      have e5 : more + (2 + (q + 1074 + L).toNat + (q + 1074 + L).toNat) = (i + 1074).toNat + K64 + (L + L) := by
        have : (K64 : Int) = 1074 := rfl
        omega
      unfold sc
      rw [Nat.shiftLeft_eq, show (i + ((K64 : Nat) : Int)).toNat = (i + 1074).toNat from rfl, p3, p4, e5]
    rw [e1]
    refine Nat.le_trans (Nat.mul_le_mul_right _ hle) ?_
    rw [e2]
    refine Nat.le_trans (Nat.mul_le_mul_right _ hvb) ?_
    rw [Nat.mul_mul_mul_comm]
    exact Nat.le_refl _
  have hW2 : 2 * W * 2 ^ (q + 1074 + L).toNat ≤ b * 2 ^ L := by
    apply Nat.le_of_not_lt
    intro hc
    have := Nat.mul_lt_mul'' hc hc
    omega
  have hD : sc (K64 + L) (2 * W + st) q ≤ b * 2 ^ L + 2 ^ (F + (K64 + L)) := by
    rw [hs1, Nat.add_mul]
    have : st * 2 ^ (q + 1074 + L).toNat ≤ 1 * 2 ^ (q + 1074 + L).toNat := Nat.mul_le_mul_right _ hst1
    omega
  have hlt : sc (K64 + L) (2 * W + st) q < 2 ^ (E + 1 + (K64 + L)) := by
    have u1 : b * 2 ^ L < 2 ^ (E + (K64 + L)) := by
      rw [← Nat.add_assoc, Nat.pow_add _ _ L, Nat.pow_add]
      exact Nat.mul_lt_mul_of_pos_right hb' (Nat.two_pow_pos _)
    have u2 : 2 ^ (F + (K64 + L)) ≤ 2 ^ (E + (K64 + L)) := Nat.pow_le_pow_right (by decide) (by omega)
    have u3 : 2 ^ (E + 1 + (K64 + L)) = 2 ^ (E + (K64 + L)) + 2 ^ (E + (K64 + L)) := by
      rw [show E + 1 + (K64 + L) = (E + (K64 + L)) + 1 by omega, Nat.pow_succ, Nat.mul_two]
    omega
  show ∃ r, Val (Ieee.double.nearest false (2 * W + st) q) r ∧ _
  obtain ⟨r, k1, k2, -, k3⟩ := nearest_val false (2 * W + st) q (E + 1) (F + 1) (K64 + L) (by omega) hE2 (Nat.le_add_right _ _) hL1 hlt
  refine ⟨r, k1, k3 rfl, ?_⟩
  rw [show K64 + L - 1074 = L from Nat.add_sub_cancel_left ..] at k2
  have hpos : (0 : Int) < ((2 ^ L : Nat) : Int) := by have := Nat.two_pow_pos L; omega
  have c1 : ∀ G, ((2 ^ (G + (K64 + L)) : Nat) : Int) = 2 ^ G * U64 * ((2 ^ L : Nat) : Int) := by
    intro G
    rw [← Nat.add_assoc, Nat.pow_add _ _ L, Int.natCast_mul, pow_K']
  have c2 : sg false (sc (K64 + L) (2 * W + st) q) ≤ (b : Int) * ((2 ^ L : Nat) : Int) + 2 ^ F * U64 * ((2 ^ L : Nat) : Int) := by
    show ((sc (K64 + L) (2 * W + st) q : Nat) : Int) ≤ _
    rw [← c1, ← Int.natCast_mul, ← Int.natCast_add]
    exact Int.ofNat_le.2 hD
  rw [c1] at k2
  have c4 : (2 : Int) ^ (F + 2) = 2 ^ (F + 1) + 2 ^ F + 2 ^ F := by rw [show F + 2 = (F + 1) + 1 from rfl, Int.pow_succ, Int.pow_succ]; omega
  have c5 : (0 : Int) ≤ 2 ^ F * U64 * ((2 ^ L : Nat) : Int) := Int.mul_nonneg (Int.mul_nonneg (Int.pow_nonneg (by decide)) (Int.le_of_lt hUp)) (by omega)
  apply Int.le_of_mul_le_mul_right _ hpos
  rw [c4, Int.add_mul, Int.add_mul, Int.add_mul, Int.add_mul, Int.add_mul]
  omega
/-- What is not far above the greatest 32-bit number is narrowed to one. -/
theorem fits_val {x : Nat} {v : Int} (hx : Val x v) (h0 : 0 ≤ v) (h : v ≤ (2 ^ 26 - 3) * 2 ^ 102 * U64) : fits x := by
  obtain ⟨s, m, e, h1, h2, rfl⟩ := val_read hx
  intro s' m' e' hd
  have hd' : FloatKind.f64.format.read x = .number s' m' e' := hd
  rw [h1] at hd'
  cases hd'
  show (Ieee.single.read (Ieee.single.nearest s m e)).isInfinity = false
  by_cases hm0 : m = 0
  · subst hm0
    rw [nearest_zero]
    rfl
  have hs : sg s (sc K64 m e) = ((sc K64 m e : Nat) : Int) := by
    unfold sg at h0 ⊢
    cases s
    · rfl
    · simp at h0 ⊢
      omega
  rw [hs] at h
  have hle : m * 2 ^ (e + 1074).toNat ≤ (2 ^ 26 - 3) * 2 ^ 102 * 2 ^ K64 := by
    apply Int.ofNat_le.1
    unfold U64 at h
    rw [Int.natCast_mul _ (2 ^ K64)]
    exact h
  have hlt : e + (m.log2 : Int) < 128 := log_of_lt (E := 128) hm0 h2 (Nat.lt_of_le_of_lt hle (Nat.mul_lt_mul_of_pos_right (by decide) (Nat.two_pow_pos _)))
  by_cases hl : e + (m.log2 : Int) < 127
  · obtain ⟨rung, g1, g2⟩ := nearest_rung Ieee.single s m e 127 (.inr hl) (by decide)
    rw [g1]
    have e1 : Ieee.single.leastPlace = -149 := by decide
    have e2 : Ieee.single.binade = 8388608 := by decide
    have e3 : Ieee.single.infRung = 255 * 8388608 := by decide
    have e4 : Ieee.single.fractionBits = 23 := rfl
    rw [e1, e2, e4] at g2
    rw [e3]
    refine read_word_notInf _ _ ?_
    rw [e3]
    omega
  have hl7 : e + (m.log2 : Int) = 127 := by omega
  unfold Ieee.Format.nearest
  rw [if_neg hm0]
  dsimp only
  have e1 : Ieee.single.leastPlace = -149 := by decide
  have e2 : Ieee.single.binade = 8388608 := by decide
  have e3 : Ieee.single.infRung = 255 * 8388608 := by decide
  have e4 : Ieee.single.fractionBits = 23 := rfl
  rw [e1, e2, e3, e4]
  have hlast : max (e + (m.log2 : Int) - (23 : Nat)) (-149) = 104 := by omega
  rw [hlast]
  have hcut := (cut_err s (m <<< (e - 104).toNat) (104 - e).toNat).1
  have hk : Ieee.Toward.even.cut s (m <<< (e - 104).toNat) (104 - e).toNat < 2 ^ 24 := by
    apply Nat.lt_of_not_le
    intro hc
    by_cases he : 104 ≤ e
    · have hd0 : (104 - e).toNat = 0 := by omega
      rw [hd0, Nat.pow_zero, Nat.mul_one, Nat.shiftLeft_eq] at hcut
      rw [hd0, Nat.shiftLeft_eq] at hc
      have h5 : m * 2 ^ (e - 104).toNat * 2 ^ 104 * 2 ^ K64 ≤ (2 ^ 26 - 3) * 2 ^ 102 * 2 ^ K64 := by
        refine Nat.le_trans (Nat.le_of_eq ?_) hle
        rw [Nat.mul_assoc, Nat.mul_assoc, ← Nat.pow_add, ← Nat.pow_add]
        congr 2
        have : (K64 : Int) = 1074 := rfl
        omega
      have h6 := Nat.le_of_mul_le_mul_right h5 (Nat.two_pow_pos _)
      omega
    · obtain ⟨d, hd⟩ : ∃ d : Nat, (104 - e).toNat = d := ⟨_, rfl⟩
      have hd1 : 1 ≤ d := by omega
      rw [show (e - 104).toNat = 0 by omega, Nat.shiftLeft_zero, hd] at hcut hc
      have h5 : m * 2 ^ 104 * 2 ^ K64 ≤ (2 ^ 26 - 3) * 2 ^ 102 * 2 ^ d * 2 ^ K64 := by
        have := Nat.mul_le_mul_right (2 ^ d) hle
        refine Nat.le_trans (Nat.le_of_eq ?_) (Nat.le_trans this (Nat.le_of_eq (Nat.mul_right_comm ..)))
        rw [Nat.mul_assoc, Nat.mul_assoc, ← Nat.pow_add, ← Nat.pow_add]
        congr 2
        have : (K64 : Int) = 1074 := rfl
        omega
      have h6 := Nat.le_of_mul_le_mul_right h5 (Nat.two_pow_pos _)
      have h7 := Nat.mul_le_mul_right (2 ^ d) hc
      have hpd := Nat.two_pow_pos d
      generalize 2 ^ d = T at *
      omega
  generalize Ieee.Toward.even.cut s (m <<< (e - 104).toNat) (104 - e).toNat = kept at *
  refine read_word_notInf _ _ ?_
  rw [e3]
  have : (104 - (-149) : Int).toNat = 253 := by decide
  rw [this]
  omega
end Go.Fl
