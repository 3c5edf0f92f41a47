/- Floats: the spread of numbers is no greater than the greatest of them, nearly. -/
import Derived.Test.YtmpmnhnobgidoaaNV
namespace Go.Fl
set_option linter.unusedSimpArgs false
set_option linter.unusedVariables false
open Go Go.RowKit

/-- The sum, and the sum of squares of what is left without the mean, from left to right, in 64 bits. -/
def ssum (xs : List Nat) : Nat → Nat
  | 0 => 0
  | k + 1 => fa .add .f64 (ssum xs k) (widen (xs.getD k 0))
def smean (xs : List Nat) : Nat := fa .quo .f64 (ssum xs xs.length) (floatOfInt .f64 (xs.length : Int))
def sdev (xs : List Nat) (k : Nat) : Nat := fa .sub .f64 (widen (xs.getD k 0)) (smean xs)
def ssq (xs : List Nat) : Nat → Nat
  | 0 => 0
  | k + 1 => fa .add .f64 (ssq xs k) (fa .mul .f64 (sdev xs k) (sdev xs k))
def sroot (xs : List Nat) : Nat := rt .f64 (fa .quo .f64 (ssq xs xs.length) (floatOfInt .f64 (xs.length : Int)))

/-- The greatest 32-bit number, in units. -/
def MX : Int := (2 ^ 24 - 1) * 2 ^ 104 * U64
theorem val_nought : Val 0 0 := ⟨false, 0, -1074, by decide, Int.le_refl _, by unfold sg sc; rw [Nat.zero_mul]; rfl⟩
theorem widen_val {x : Nat} (h : fin .f32 x = true) : ∃ v, Val (widen x) v ∧ v ≤ MX ∧ -MX ≤ v := by
  unfold fin at h
  cases hr : FloatKind.f32.format.read x <;> rw [hr] at h <;> try (cases h; done)
  rename_i s m e
  have hr' : Ieee.single.read x = .number s m e := hr
  obtain ⟨h1, h2, h3⟩ := single_read x hr'
  obtain ⟨m', e', g1, g2, g3, -⟩ := widen_read hr'
  refine ⟨_, ⟨s, m', e', g1, g2, rfl⟩, ?_⟩
  rw [g3]
  have hle : sc K64 m e ≤ (2 ^ 24 - 1) * 2 ^ 104 * 2 ^ K64 := by
    unfold sc
    rw [Nat.mul_assoc, ← Nat.pow_add]
    exact Nat.mul_le_mul (by omega) (Nat.pow_le_pow_right (by decide) (by have : (K64 : Int) = 1074 := rfl; omega))
  have hle' : ((sc K64 m e : Nat) : Int) ≤ MX := by
    unfold MX U64
    have := Int.ofNat_le.2 hle
    rw [Int.natCast_mul _ (2 ^ K64)] at this
    exact this
  unfold sg
  cases s
  · simp; omega
  · simp; omega

def isum (f : Nat → Int) : Nat → Int
  | 0 => 0
  | k + 1 => isum f k + f k
theorem isum_le {f : Nat → Int} {c : Int} {n : Nat} (h : ∀ i, i < n → f i ≤ c) : ∀ k, k ≤ n → isum f k ≤ (k : Int) * c
  | 0, _ => by simp [isum]
  | k + 1, hk => by
    have h1 := isum_le h k (by omega)
    have h2 := h k (by omega)
    unfold isum
    rw [Int.natCast_add, Int.add_mul, Int.natCast_one, Int.one_mul]
    omega
theorem isum_ge {f : Nat → Int} {c : Int} {n : Nat} (h : ∀ i, i < n → -c ≤ f i) : ∀ k, k ≤ n → -((k : Int) * c) ≤ isum f k
  | 0, _ => by simp [isum]
  | k + 1, hk => by
    have h1 := isum_ge h k (by omega)
    have h2 := h k (by omega)
    unfold isum
    rw [Int.natCast_add, Int.add_mul, Int.natCast_one, Int.one_mul]
    omega
theorem isum_dev (X : Nat → Int) (μ : Int) : ∀ k, isum (fun i => (X i - μ) * (X i - μ)) k = isum (fun i => X i * X i) k - 2 * μ * isum X k + (k : Int) * (μ * μ)
  | 0 => by simp [isum]
  | k + 1 => by
    unfold isum
    rw [isum_dev X μ k, Int.natCast_add, Int.natCast_one]
    grind
theorem dev_total (n P S Q μ : Int) (h : P = Q - 2 * μ * S + n * (μ * μ)) : n * P = n * Q - S * S + (n * μ - S) * (n * μ - S) := by
  subst h
  grind
theorem mul_bound {a b c d : Int} (h1 : a ≤ c) (h2 : -c ≤ a) (h3 : b ≤ d) (h4 : -d ≤ b) (hd : 0 ≤ d) : a * b ≤ c * d ∧ -(c * d) ≤ a * b := by
  have hc : 0 ≤ c := by omega
  have e1 := Int.mul_nonneg (show 0 ≤ c - a by omega) (show 0 ≤ d + b by omega)
  have e2 := Int.mul_nonneg (show 0 ≤ c + a by omega) (show 0 ≤ d - b by omega)
  have e3 := Int.mul_nonneg (show 0 ≤ c - a by omega) (show 0 ≤ d - b by omega)
  have e4 := Int.mul_nonneg (show 0 ≤ c + a by omega) (show 0 ≤ d + b by omega)
  have f1 : (c - a) * (d + b) = c * d + c * b - a * d - a * b := by grind
  have f2 : (c + a) * (d - b) = c * d - c * b + a * d - a * b := by grind
  have f3 : (c - a) * (d - b) = c * d - c * b - a * d + a * b := by grind
  have f4 : (c + a) * (d + b) = c * d + c * b + a * d + a * b := by grind
  omega

section
variable {xs : List Nat} {X : Nat → Int} (hX : ∀ i, i < xs.length → Val (widen (xs.getD i 0)) (X i) ∧ X i ≤ MX ∧ -MX ≤ X i) (hn1 : 1 ≤ xs.length) (hn2 : xs.length ≤ 64)
include hX hn2
theorem ssum_val : ∀ k, k ≤ xs.length → ∃ s, Val (ssum xs k) s ∧ s ≤ isum X k + (k : Int) * (2 ^ 81 * U64) ∧ isum X k ≤ s + (k : Int) * (2 ^ 81 * U64)
  | 0, _ => ⟨0, val_nought, by simp [isum], by simp [isum]⟩
  | k + 1, hk => by
    obtain ⟨s, h1, h2, h3⟩ := ssum_val k (by omega)
    obtain ⟨g1, g2, g3⟩ := hX k (by omega)
    have b1 := isum_le (f := X) (c := MX) (n := xs.length) (fun i hi => (hX i hi).2.1) k (by omega)
    have b2 := isum_ge (f := X) (c := MX) (n := xs.length) (fun i hi => (hX i hi).2.2) k (by omega)
    have hU := U_pos
    have k1 : (k : Int) * MX ≤ 64 * MX := Int.mul_le_mul_of_nonneg_right (by omega) (by unfold MX; omega)
    have k2 : (k : Int) * (2 ^ 81 * U64) ≤ 64 * (2 ^ 81 * U64) := Int.mul_le_mul_of_nonneg_right (by omega) (by omega)
    have k3 : MX = (2 ^ 24 - 1) * 2 ^ 104 * U64 := rfl
    obtain ⟨r, r1, r2, r3⟩ := add_val 135 81 rfl (by decide) h1 g1 (by omega)
    refine ⟨r, r1, ?_⟩
    unfold isum
    rw [Int.natCast_add, Int.add_mul, Int.natCast_one, Int.one_mul]
    omega
include hn1
theorem smean_val : ∃ μ, Val (smean xs) μ ∧ (xs.length : Int) * μ ≤ isum X xs.length + (xs.length : Int) * (2 ^ 84 * U64) ∧ isum X xs.length ≤ (xs.length : Int) * μ + (xs.length : Int) * (2 ^ 84 * U64) ∧ μ ≤ 2 ^ 128 * U64 ∧ -(2 ^ 128 * U64) ≤ μ := by
  obtain ⟨s, h1, h2, h3⟩ := ssum_val hX hn2 xs.length (Nat.le_refl _)
  have b1 := isum_le (f := X) (c := MX) (n := xs.length) (fun i hi => (hX i hi).2.1) xs.length (Nat.le_refl _)
  have b2 := isum_ge (f := X) (c := MX) (n := xs.length) (fun i hi => (hX i hi).2.2) xs.length (Nat.le_refl _)
  have hU := U_pos
  have hlog : xs.length.log2 ≤ 23 := by
    have : xs.length.log2 < 7 := (Nat.log2_lt (by omega)).2 (by omega)
    omega
  have k3 : MX = (2 ^ 24 - 1) * 2 ^ 104 * U64 := rfl
  obtain ⟨n, hn⟩ : ∃ n : Int, n = (xs.length : Int) ∧ 1 ≤ n ∧ n ≤ 64 := ⟨_, rfl, by omega, by omega⟩
  have k1 : n * MX ≤ 64 * MX := Int.mul_le_mul_of_nonneg_right (by omega) (by unfold MX; omega)
  have k2 : n * (2 ^ 81 * U64) ≤ 64 * (2 ^ 81 * U64) := Int.mul_le_mul_of_nonneg_right (by omega) (by omega)
  rw [← hn.1] at h2 h3 b1 b2 ⊢
  obtain ⟨r, r1, r2, r3⟩ := quo_val xs.length hn1 hlog 135 81 rfl (by decide) h1 (by omega)
  rw [← hn.1] at r2 r3
  have e1 : n * (2 ^ 84 * U64) = n * (2 ^ 81 * U64) * 8 := by grind
  have e2 : n * (2 ^ (81 + 2) * U64) = n * (2 ^ 81 * U64) * 4 := by grind
  rw [e2] at r2 r3
  rw [e1]
  have hnn : 0 ≤ n * (2 ^ 81 * U64) := Int.mul_nonneg (by omega) (by omega)
  refine ⟨r, r1, by omega, by omega, ?_⟩
  have e3 : n * (2 ^ 128 * U64) = n * MX + n * (2 ^ 81 * U64) * 8388608 := by rw [k3]; grind
  have hnp : 0 < n := by omega
  refine ⟨?_, ?_⟩
  · apply Int.le_of_mul_le_mul_left _ hnp
    omega
  · apply Int.le_of_mul_le_mul_left _ hnp
    rw [Int.mul_neg]
    omega
end

/-- Greater units: of sums of squares. -/
def W64 : Int := U64 * U64
def T64 : Int := 2 ^ 128 * U64
def V64 : Int := 2 ^ 128 * W64
theorem W_pos : 0 < W64 := Int.mul_pos U_pos U_pos
theorem T_pos : 0 < T64 := by have := U_pos; unfold T64; omega
theorem V_pos : 0 < V64 := by have := W_pos; unfold V64; omega
theorem TU : T64 * U64 = V64 := by unfold T64 V64 W64; rw [Int.mul_assoc]
theorem pw (a b c : Nat) (h : c = a + b) : (2 : Int) ^ c = 2 ^ a * 2 ^ b := by rw [h, Int.pow_add]
section
variable {xs : List Nat} {X : Nat → Int} {μ : Int} (hX : ∀ i, i < xs.length → Val (widen (xs.getD i 0)) (X i) ∧ X i ≤ MX ∧ -MX ≤ X i) (hn2 : xs.length ≤ 64)
  (hμ : Val (smean xs) μ) (hμ1 : μ ≤ 2 ^ 128 * U64) (hμ2 : -(2 ^ 128 * U64) ≤ μ)
include hX hμ hμ1 hμ2
theorem sq_val (k : Nat) (hk : k < xs.length) : ∃ q, Val (fa .mul .f64 (sdev xs k) (sdev xs k)) q ∧ q * U64 ≤ (X k - μ) * (X k - μ) + 2 ^ 80 * V64 ∧ q ≤ 2 ^ 131 * T64 ∧ -(2 ^ 78 * T64) ≤ q ∧ (X k - μ) * (X k - μ) ≤ 2 ^ 130 * V64 := by
  obtain ⟨g1, g2, g3⟩ := hX k hk
  have hU := U_pos
  have k3 : MX = (2 ^ 24 - 1) * 2 ^ 104 * U64 := rfl
  obtain ⟨d, d1, d2, d3⟩ := sub_val 130 76 rfl (by decide) g1 hμ (by omega)
  have hd : Val (sdev xs k) d := d1
  generalize hA : X k - μ = a at *
  have ha1 : a ≤ 2 ^ 129 * U64 := by omega
  have ha2 : -(2 ^ 129 * U64) ≤ a := by omega
  obtain ⟨δ, hδ⟩ : ∃ δ, d = a + δ := ⟨d - a, by omega⟩
  subst hδ
  have hWdef : W64 = U64 * U64 := rfl
  have hVdef : V64 = 2 ^ 128 * W64 := rfl
  have hWp := W_pos
  obtain ⟨m1, m2⟩ := mul_bound ha1 ha2 (b := δ) (d := 2 ^ 76 * U64) (by omega) (by omega) (by omega)
  obtain ⟨m3, -⟩ := mul_bound (a := δ) (b := δ) (c := 2 ^ 76 * U64) (d := 2 ^ 76 * U64) (by omega) (by omega) (by omega) (by omega) (by omega)
  obtain ⟨m5, -⟩ := mul_bound ha1 ha2 ha1 ha2 (by omega)
  have c1 : 2 ^ 129 * U64 * (2 ^ 76 * U64) = 2 ^ 77 * V64 := by
    rw [hVdef, hWdef]; grind
  have c2 : 2 ^ 76 * U64 * (2 ^ 76 * U64) = 2 ^ 24 * V64 := by
    rw [hVdef, hWdef]; grind
  have c3 : 2 ^ 129 * U64 * (2 ^ 129 * U64) = 2 ^ 130 * V64 := by
    rw [hVdef, hWdef]; grind
  rw [c1] at m1 m2
  rw [c2] at m3
  rw [c3] at m5
  have hsq : (a + δ) * (a + δ) = a * a + 2 * (a * δ) + δ * δ := by grind
  have hd0 : 0 ≤ (a + δ) * (a + δ) := by
    rcases Int.le_total 0 (a + δ) with h | h
    · exact Int.mul_nonneg h h
    · exact Int.mul_nonneg_of_nonpos_of_nonpos h h
  have hV := V_pos
  have p260 : (2 : Int) ^ 260 * (U64 * U64) = 2 ^ 132 * V64 := by
    rw [hVdef, hWdef, pw 132 128 260 rfl, Int.mul_assoc]
  have p206 : (2 : Int) ^ 206 * (U64 * U64) = 2 ^ 78 * V64 := by
    rw [hVdef, hWdef, pw 78 128 206 rfl, Int.mul_assoc]
  obtain ⟨q, q1, q2, q3⟩ := mul_val 260 206 rfl (by decide) hd hd (by rw [p260]; omega)
  rw [p206] at q2 q3
  have hq : q * U64 ≤ a * a + 2 ^ 80 * V64 := by omega
  refine ⟨q, q1, hq, ?_, ?_, m5⟩
  · apply Int.le_of_mul_le_mul_right _ hU
    rw [Int.mul_assoc, TU]
    omega
  · apply Int.le_of_mul_le_mul_right _ hU
    rw [Int.neg_mul, Int.mul_assoc, TU]
    omega
include hn2
theorem ssq_val : ∀ k, k ≤ xs.length → ∃ Q, Val (ssq xs k) Q ∧ Q * U64 ≤ isum (fun i => (X i - μ) * (X i - μ)) k + (k : Int) * (2 ^ 86 * V64) ∧ Q ≤ (k : Int) * (2 ^ 132 * T64) ∧ -((k : Int) * (2 ^ 86 * T64)) ≤ Q
  | 0, _ => ⟨0, val_nought, by simp [isum], by simp, by simp⟩
  | k + 1, hk => by
    obtain ⟨Q, h1, h2, h3, h4⟩ := ssq_val k (by omega)
    obtain ⟨q, q1, q2, q3, q4, -⟩ := sq_val hX hμ hμ1 hμ2 k (by omega)
    have hU := U_pos
    have hT := T_pos
    have hV := V_pos
    have k1 : (k : Int) * (2 ^ 132 * T64) ≤ 64 * (2 ^ 132 * T64) := Int.mul_le_mul_of_nonneg_right (by omega) (by omega)
    have k2 : (k : Int) * (2 ^ 86 * T64) ≤ 64 * (2 ^ 86 * T64) := Int.mul_le_mul_of_nonneg_right (by omega) (by omega)
    have p267 : (2 : Int) ^ 267 * U64 = 2 ^ 139 * T64 := by unfold T64; rw [pw 139 128 267 rfl, Int.mul_assoc]
    have p213 : (2 : Int) ^ 213 * U64 = 2 ^ 85 * T64 := by unfold T64; rw [pw 85 128 213 rfl, Int.mul_assoc]
    obtain ⟨r, r1, r2, r3⟩ := add_val 267 213 rfl (by decide) h1 q1 (by rw [p267]; omega)
    rw [p213] at r2 r3
    refine ⟨r, r1, ?_, ?_, ?_⟩
    · have e1 := Int.mul_le_mul_of_nonneg_right r2 (Int.le_of_lt hU)
      rw [Int.add_mul, Int.add_mul, Int.mul_assoc, TU] at e1
      unfold isum
      rw [Int.natCast_add, Int.add_mul, Int.natCast_one, Int.one_mul]
      omega
    · rw [Int.natCast_add, Int.add_mul, Int.natCast_one, Int.one_mul]
      omega
    · rw [Int.natCast_add, Int.add_mul, Int.natCast_one, Int.one_mul]
      omega
end
theorem last_step {n v Q A P S X2 D U V M : Int} (hn : 1 ≤ n) (h1 : n * v ≤ Q + n * P) (hU : 0 < U) (h2 : Q * U ≤ A + n * (2 ^ 86 * V)) (hPU : P * U = 2 ^ 87 * V) (hA : n * A = n * X2 - S * S + D * D) (hX2 : X2 ≤ n * (M * M)) (hD : D * D ≤ n * n * (2 ^ 40 * V)) (hS : 0 ≤ S * S) (hV : 0 < V) :
    v * U ≤ M * M + 2 ^ 89 * V := by
  have hnp : 0 < n * n := Int.mul_pos (by omega) (by omega)
  apply Int.le_of_mul_le_mul_left _ hnp
  have e1 := Int.mul_le_mul_of_nonneg_right h1 (Int.le_of_lt hU)
  rw [Int.add_mul, Int.mul_assoc n P U, hPU] at e1
  have e2 : n * v * U ≤ A + n * (2 ^ 86 * V) + n * (2 ^ 87 * V) := by omega
  have e3 := Int.mul_le_mul_of_nonneg_left e2 (show 0 ≤ n by omega)
  have e4 := Int.mul_le_mul_of_nonneg_left hX2 (show 0 ≤ n by omega)
  have f1 : n * n * (v * U) = n * (n * v * U) := by grind
  have f2 : n * (A + n * (2 ^ 86 * V) + n * (2 ^ 87 * V)) = n * A + n * n * (2 ^ 86 * V) + n * n * (2 ^ 87 * V) := by grind
  have f3 : n * n * (M * M + 2 ^ 89 * V) = n * (n * (M * M)) + n * n * (2 ^ 89 * V) := by grind
  rw [f2] at e3
  rw [f1, f3]
  have g : ∀ c : Nat, n * n * (2 ^ c * V) = n * n * V * 2 ^ c := by intro c; grind
  rw [g] at hD
  rw [g, g] at e3
  rw [g]
  have hp : 0 ≤ n * n * V := Int.mul_nonneg (by omega) (by omega)
  omega
/-- The root is narrowed to a number. -/
theorem sroot_fits (xs : List Nat) (hf : ∀ x ∈ xs, fin .f32 x = true) (hn1 : 1 ≤ xs.length) (hn2 : xs.length ≤ 64) : fits (sroot xs) := by
  have h0 : ∀ i, ∃ v, i < xs.length → Val (widen (xs.getD i 0)) v ∧ v ≤ MX ∧ -MX ≤ v := fun i => by
    by_cases hi : i < xs.length
    · obtain ⟨v, hv⟩ := widen_val (x := xs.getD i 0) (by simp [hi]; exact hf _ (List.getElem_mem hi))
      exact ⟨v, fun _ => hv⟩
    · exact ⟨0, fun h => absurd h hi⟩
  obtain ⟨X, hX⟩ := Classical.axiomOfChoice h0
  obtain ⟨μ, m1, m2, m3, m4, m5⟩ := smean_val hX hn1 hn2
  obtain ⟨Q, q1, q2, q3, q4⟩ := ssq_val hX hn2 m1 m4 m5 xs.length (Nat.le_refl _)
  have hU := U_pos
  have hT := T_pos
  have hV := V_pos
  have hlog : xs.length.log2 ≤ 23 := by
    have : xs.length.log2 < 7 := (Nat.log2_lt (by omega)).2 (by omega)
    omega
  have k1 : (xs.length : Int) * (2 ^ 132 * T64) ≤ 64 * (2 ^ 132 * T64) := Int.mul_le_mul_of_nonneg_right (by omega) (by omega)
  have k2 : (xs.length : Int) * (2 ^ 86 * T64) ≤ 64 * (2 ^ 86 * T64) := Int.mul_le_mul_of_nonneg_right (by omega) (by omega)
  have p267 : (2 : Int) ^ 267 * U64 = 2 ^ 139 * T64 := by unfold T64; rw [pw 139 128 267 rfl, Int.mul_assoc]
  have p215 : (2 : Int) ^ (213 + 2) * U64 = 2 ^ 87 * T64 := by unfold T64; rw [pw 87 128 (213 + 2) rfl, Int.mul_assoc]
  obtain ⟨v, v1, v2, v3⟩ := quo_val xs.length hn1 hlog 267 213 rfl (by decide) q1 (by rw [p267]; omega)
  rw [p215] at v2 v3
  have hdev := isum_dev X μ xs.length
  have htot := dev_total (xs.length : Int) _ _ _ μ hdev
  have hD1 : (xs.length : Int) * μ - isum X xs.length ≤ (xs.length : Int) * (2 ^ 84 * U64) := by omega
  have hD2 : -((xs.length : Int) * (2 ^ 84 * U64)) ≤ (xs.length : Int) * μ - isum X xs.length := by omega
  have hnn : 0 ≤ (xs.length : Int) * (2 ^ 84 * U64) := Int.mul_nonneg (by omega) (by omega)
  obtain ⟨hDD, -⟩ := mul_bound hD1 hD2 hD1 hD2 hnn
  have hDe : (xs.length : Int) * (2 ^ 84 * U64) * ((xs.length : Int) * (2 ^ 84 * U64)) = (xs.length : Int) * (xs.length : Int) * (2 ^ 40 * V64) := by
    unfold V64 W64; grind
  rw [hDe] at hDD
  have hX2 := isum_le (f := fun i => X i * X i) (c := MX * MX) (n := xs.length) (fun i hi => by
    obtain ⟨-, a1, a2⟩ := hX i hi
    exact (mul_bound a1 a2 a1 a2 (by omega)).1) xs.length (Nat.le_refl _)
  have hSS : 0 ≤ isum X xs.length * isum X xs.length := by
    rcases Int.le_total 0 (isum X xs.length) with h | h
    · exact Int.mul_nonneg h h
    · exact Int.mul_nonneg_of_nonpos_of_nonpos h h
  have hPU : 2 ^ 87 * T64 * U64 = 2 ^ 87 * V64 := by rw [Int.mul_assoc, TU]
  have hvU := last_step (n := (xs.length : Int)) (by omega) v2 hU q2 hPU htot hX2 hDD hSS hV
  have k3 : MX = (2 ^ 24 - 1) * 2 ^ 104 * U64 := rfl
  have hB : v * U64 ≤ (MX + 2 ^ 96 * U64) * (MX + 2 ^ 96 * U64) := by
    have e1 : (MX + 2 ^ 96 * U64) * (MX + 2 ^ 96 * U64) = MX * MX + 2 ^ 97 * (MX * U64) + 2 ^ 64 * V64 := by unfold V64 W64; grind
    have e2 : MX * U64 = (2 ^ 24 - 1) * 2 ^ 104 * W64 := by rw [k3]; unfold W64; grind
    have e3 : V64 = 2 ^ 128 * W64 := rfl
    rw [e1, e2]
    omega
  rcases root_val 128 74 rfl (by decide) v1 (by omega) hB (by omega) with h | ⟨r, r1, r2, r3⟩
  · exact fits_nan h
  · exact fits_val r1 r2 (by omega)
end Go.Fl
