/- The law FnLists: its numbers. -/
import Derived.Test.YtmpmnhnobgidoaaVD
import Derived.Test.YtmpmnhnobgidoaaSP
import Derived.Test.YtmpmnhnobgidoaaG
import Derived.Test.YtmpmnhnobgidoaaWB
import Derived.Test.YtmpmnhnobgidoaaDR
namespace Go.Proofs.Ytmpmnhnobgidoaa
set_option linter.unusedSimpArgs false
set_option linter.unusedVariables false
open Go.RowKit Go.Fl Go.Lib

theorem fi_rv {k : Int} (h1 : -8 ≤ k) (h2 : k ≤ 8) : Rv .f32 (fi k) (k : Rat) := ofInt_q .f32 k (by show _ < 2 ^ 24; omega)
theorem Wh.rv {xs : List Nat} {ks : List Int} (h : Wh xs ks) {i : Nat} (hi : i < xs.length) : ∃ k : Int, ks[i]? = some k ∧ xs[i] = fi k ∧ Rv .f32 xs[i] (k : Rat) ∧ -8 ≤ k ∧ k ≤ 8 := by
  obtain ⟨rfl, h2⟩ := h
  have hl : i < ks.length := by simpa using hi
  have := h2 ks[i] (List.getElem_mem hl)
  exact ⟨ks[i], List.getElem?_eq_getElem hl, by simp, by simp; exact fi_rv this.1 this.2, this.1, this.2⟩
theorem Wh.len {xs : List Nat} {ks : List Int} (h : Wh xs ks) : xs.length = ks.length := by rw [h.1]; simp
theorem Wh.fin {xs : List Nat} {ks : List Int} (h : Wh xs ks) : finAll xs = true := by
  unfold finAll
  rw [List.all_eq_true]
  intro x hx
  obtain ⟨i, hi, rfl⟩ := List.getElem_of_mem hx
  obtain ⟨k, -, -, hr, -, -⟩ := h.rv hi
  exact hr.fin
theorem Wh.loads {xs : List Nat} {ks : List Int} (h : Wh xs ks) (h1 : 1 ≤ xs.length) (h2 : xs.length ≤ 16) : loadsOk xs = true := by
  unfold loadsOk
  rw [h.fin]
  simp
  omega
/-- The sum of the first ones. -/
def sumTo (ks : List Int) : Nat → Int
  | 0 => 0
  | j + 1 => sumTo ks j + ks.getD j 0
theorem sumTo_bd {ks : List Int} (h : ∀ k ∈ ks, -8 ≤ k ∧ k ≤ 8) : ∀ j, j ≤ ks.length → -(8 * (j : Int)) ≤ sumTo ks j ∧ sumTo ks j ≤ 8 * (j : Int)
  | 0, _ => by simp [sumTo]
  | j + 1, hj => by
    have h1 := sumTo_bd h j (by omega)
    have h2 := h ks[j] (List.getElem_mem (by omega))
    have h3 : ks.getD j 0 = ks[j] := by simp [List.getD_eq_getElem?_getD, show j < ks.length by omega]
    unfold sumTo
    rw [h3]
    omega
theorem fsum_rv {xs : List Nat} {ks : List Int} (h : Wh xs ks) (h2 : xs.length ≤ 16) : ∀ j, j ≤ xs.length → Rv .f32 (fsum (xs.take j)) ((sumTo ks j : Int) : Rat)
  | 0, _ => rv_zero' .f32
  | j + 1, hj => by
    have h1 := fsum_rv h h2 j (by omega)
    obtain ⟨k, hk, -, hr, k1, k2⟩ := h.rv (show j < xs.length by omega)
    have hb := sumTo_bd h.2 j (by have := h.len; omega)
    rw [fsum_take xs j (by omega)]
    have e : sumTo ks (j + 1) = sumTo ks j + k := by show sumTo ks j + ks.getD j 0 = _; rw [List.getD_eq_getElem?_getD, hk]; rfl
    rw [e]
    exact add_int h1 hr (by show _ < 2 ^ 24; omega)
theorem ssum_rv {xs : List Nat} {ks : List Int} (h : Wh xs ks) (h2 : xs.length ≤ 16) : ∀ j, j ≤ xs.length → Rv .f64 (ssum xs j) ((sumTo ks j : Int) : Rat)
  | 0, _ => rv_zero' .f64
  | j + 1, hj => by
    have h1 := ssum_rv h h2 j (by omega)
    obtain ⟨k, hk, -, hr, k1, k2⟩ := h.rv (show j < xs.length by omega)
    have hb := sumTo_bd h.2 j (by have := h.len; omega)
    rw [ssum_succ xs j (by omega)]
    have e : sumTo ks (j + 1) = sumTo ks j + k := by show sumTo ks j + ks.getD j 0 = _; rw [List.getD_eq_getElem?_getD, hk]; rfl
    rw [e]
    exact add_int h1 (widen_q hr) (by show _ < 2 ^ 53; omega)
/-- The mean. -/
def meanQ (ks : List Int) : Rat := (sumTo ks ks.length : Rat) / (ks.length : Rat)
theorem len_pos {n : Nat} (h : 1 ≤ n) : (0 : Rat) < (n : Rat) := Rat.natCast_pos.2 h
theorem meanQ_mul {ks : List Int} (h1 : 1 ≤ ks.length) : meanQ ks * (ks.length : Rat) = (sumTo ks ks.length : Rat) := Rat.div_mul_cancel (Rat.ne_of_gt (len_pos h1))
theorem meanQ_wi {ks : List Int} (h : ∀ k ∈ ks, -8 ≤ k ∧ k ≤ 8) (h1 : 1 ≤ ks.length) : Wi (meanQ ks) 8 := by
  have hb := sumTo_bd h ks.length (Nat.le_refl _)
  have hm := meanQ_mul h1
  have hp := len_pos h1
  have b1 : (sumTo ks ks.length : Rat) ≤ ((8 * (ks.length : Int) : Int) : Rat) := Rat.intCast_le_intCast.2 hb.2
  have b2 : ((-(8 * (ks.length : Int)) : Int) : Rat) ≤ (sumTo ks ks.length : Rat) := Rat.intCast_le_intCast.2 hb.1
  rw [Rat.intCast_mul, Rat.intCast_natCast] at b1
  rw [Rat.intCast_neg, Rat.intCast_mul, Rat.intCast_natCast] at b2
  rw [show ((8 : Int) : Rat) = 8 from rfl] at b1 b2
  rw [← hm] at b1 b2
  constructor
  · apply Rat.le_of_mul_le_mul_right _ hp
    grind
  · exact Rat.le_of_mul_le_mul_right b1 hp
theorem int_n {k : FloatKind} {n : Nat} (h2 : n ≤ 16) : Rv k (floatOfInt k (n : Int)) (n : Rat) := by
  have := ofInt_q k (n : Int) (by have : 2 ^ 24 ≤ 2 ^ (fb k + 1) := by cases k <;> decide
                                  omega)
  rwa [Rat.intCast_natCast] at this
theorem fmean_rv {xs : List Nat} {ks : List Int} (h : Wh xs ks) (h1 : 1 ≤ xs.length) (h2 : xs.length ≤ 16) : ∃ μ, Rv .f32 (fmean xs) μ ∧ Wi (μ - meanQ ks) (1 / 500000) := by
  have hl := h.len
  have hs := fsum_rv h h2 xs.length (Nat.le_refl _)
  rw [List.take_length] at hs
  have hn := int_n (k := .f32) h2
  have hm := meanQ_mul (ks := ks) (by omega)
  have hw := meanQ_wi h.2 (by omega)
  rw [hl] at hs hn
  rw [← hm] at hs
  obtain ⟨μ, g1, g2⟩ := quo_w hs hn (Rat.ne_of_gt (len_pos (by omega))) rfl hw (by decide +kernel)
  unfold fmean
  rw [hl]
  refine ⟨μ, g1, (g2.wi hw).mono ?_⟩
  have := et32
  rw [ep32]; grind
theorem smean_rv {xs : List Nat} {ks : List Int} (h : Wh xs ks) (h1 : 1 ≤ xs.length) (h2 : xs.length ≤ 16) : ∃ μ, Rv .f64 (smean xs) μ ∧ Wi (μ - meanQ ks) (1 / 1099511627776) := by
  have hl := h.len
  have hs := ssum_rv h h2 xs.length (Nat.le_refl _)
  have hn := int_n (k := .f64) h2
  have hm := meanQ_mul (ks := ks) (by omega)
  have hw := meanQ_wi h.2 (by omega)
  unfold smean
  rw [hl] at hs hn ⊢
  rw [← hm] at hs
  obtain ⟨μ, g1, g2⟩ := quo_w hs hn (Rat.ne_of_gt (len_pos (by omega))) rfl hw (by decide +kernel)
  refine ⟨μ, g1, (g2.wi hw).mono ?_⟩
  have := et64
  rw [ep64]; grind
/-- Sums of squares of what is taken from a number. -/
def sqD (xs : List Nat) (m : Nat) (j : Nat) : Nat := fa .sub .f64 (widen (xs.getD j 0)) m
def sqAcc (xs : List Nat) (m : Nat) : Nat → Nat
  | 0 => 0
  | j + 1 => fa .add .f64 (sqAcc xs m j) (fa .mul .f64 (sqD xs m j) (sqD xs m j))
theorem ssq_acc (xs : List Nat) : ∀ j, ssq xs j = sqAcc xs (smean xs) j
  | 0 => rfl
  | j + 1 => by rw [ssq_succ, ssq_acc xs j]; rfl
def devS (ks : List Int) (M : Rat) : Nat → Rat
  | 0 => 0
  | j + 1 => devS ks M j + ((ks.getD j 0 : Int) - M) * ((ks.getD j 0 : Int) - M)
theorem sq_step {x m k : Nat} {K : Int} {μ M δ : Rat} (hx : Rv .f32 x (K : Rat)) (k1 : -8 ≤ K) (k2 : K ≤ 8) (hm : Rv .f64 m μ) (hM : Wi M 8) (hd : Wi (μ - M) δ) (hδ : δ ≤ 1 / 100000) :
    ∃ d p, Rv .f64 (fa .sub .f64 (widen x) m) d ∧ Rv .f64 (fa .mul .f64 (fa .sub .f64 (widen x) m) (fa .sub .f64 (widen x) m)) p ∧ 0 ≤ p ∧ p ≤ 330 ∧ Wi (p - ((K : Rat) - M) * ((K : Rat) - M)) (34 * δ + 1 / 2147483648) := by
  have hK : Wi (K : Rat) 8 := natAbs_wi K 8 (by omega)
  have e64 := ep64
  have t64 := et64
  have h1 : Wi ((K : Rat) - μ) 17 := by
    have : (K : Rat) - μ = ((K : Rat) - M) - (μ - M) := by grind
    rw [this]
    exact ((hK.sub hM).sub hd).mono (by grind)
  obtain ⟨d, g1, g2⟩ := sub_w (widen_q hx) hm h1 (by decide +kernel)
  have g3 : Wi (d - ((K : Rat) - μ)) (1 / 137438953472) := (g2.wi h1).mono (by rw [e64]; grind)
  have hd18 : Wi d 18 := by
    have : d = ((K : Rat) - μ) + (d - ((K : Rat) - μ)) := by grind
    rw [this]
    exact (h1.add g3).mono (by grind)
  have h2 := hd18.mul hd18
  obtain ⟨p, g4, g5⟩ := mul_w g1 g1 h2 (by decide +kernel)
  have g6 : Wi (p - d * d) (1 / 137438953472) := (g5.wi h2).mono (by rw [e64]; grind)
  have hdd : 0 ≤ d * d := by
    by_cases h : 0 ≤ d
    · exact Rat.mul_nonneg h h
    · have := Rat.mul_nonneg (show 0 ≤ -d by grind) (show 0 ≤ -d by grind)
      grind
  refine ⟨d, p, g1, g4, g5.pos hdd, ?_, ?_⟩
  · unfold Wi at g6 h2; grind
  · have h3 : Wi (d - ((K : Rat) - M)) (1 / 137438953472 + δ) := by
      have : d - ((K : Rat) - M) = (d - ((K : Rat) - μ)) - (μ - M) := by grind
      rw [this]
      exact g3.sub hd
    have h4 := Wi.squares h3 hd18 (hK.sub hM)
    have h5 := g6.add h4
    have h6 : p - ((K : Rat) - M) * ((K : Rat) - M) = p - d * d + (d * d - ((K : Rat) - M) * ((K : Rat) - M)) := by grind
    rw [h6]
    exact h5.mono (by grind)
theorem sqAcc_rv {xs : List Nat} {ks : List Int} {m : Nat} {μ M δ : Rat} (h : Wh xs ks) (hl : xs.length ≤ 16) (hm : Rv .f64 m μ) (hM : Wi M 8) (hd : Wi (μ - M) δ) (hδ : δ ≤ 1 / 100000) :
    ∀ j, j ≤ xs.length → ∃ t, Rv .f64 (sqAcc xs m j) t ∧ 0 ≤ t ∧ t ≤ 340 * (j : Rat) ∧ Wi (t - devS ks M j) ((j : Rat) * (34 * δ + 1 / 1073741824))
  | 0, _ => ⟨0, rv_zero _, Rat.le_refl, by simp, by unfold devS Wi; simp; grind⟩
  | j + 1, hj => by
    obtain ⟨t, g1, g2, g3, g4⟩ := sqAcc_rv h hl hm hM hd hδ j (by omega)
    obtain ⟨k, hk, -, hr, k1, k2⟩ := h.rv (show j < xs.length by omega)
    have hx : xs.getD j 0 = xs[j] := by simp [List.getD_eq_getElem?_getD, show j < xs.length by omega]
    obtain ⟨d, p, q1, q2, q3, q4, q5⟩ := sq_step (k := 0) hr k1 k2 hm hM hd hδ
    have hj16 : (j : Rat) ≤ 16 := by
      have : ((j : Nat) : Rat) ≤ ((16 : Nat) : Rat) := Rat.natCast_le_natCast.2 (by omega)
      exact this
    have hs : Wi (t + p) 8000 := by unfold Wi; grind
    obtain ⟨t', r1, r2⟩ := add_w g1 q2 hs (by decide +kernel)
    have r3 : Wi (t' - (t + p)) (1 / 8589934592) := (r2.wi hs).mono (by rw [ep64]; have := et64; grind)
    refine ⟨t', ?_, r2.pos (by grind), ?_, ?_⟩
    · unfold sqAcc sqD
      rw [hx]
      exact r1
    · rw [Rat.natCast_add, show ((1 : Nat) : Rat) = 1 from rfl]
      unfold Wi at r3; grind
    · have e : devS ks M (j + 1) = devS ks M j + ((k : Rat) - M) * ((k : Rat) - M) := by
        show devS ks M j + ((ks.getD j 0 : Int) - M) * ((ks.getD j 0 : Int) - M) = _
        rw [List.getD_eq_getElem?_getD, hk]; rfl
      rw [e, Rat.natCast_add, show ((1 : Nat) : Rat) = 1 from rfl]
      have h6 : t' - (devS ks M j + ((k : Rat) - M) * ((k : Rat) - M)) = (t' - (t + p)) + ((t - devS ks M j) + (p - ((k : Rat) - M) * ((k : Rat) - M))) := by grind
      rw [h6]
      exact (r3.add (g4.add q5)).mono (by grind)
/-- The spread. -/
theorem spread_rv {xs : List Nat} {ks : List Int} (h : Wh xs ks) (h1 : 1 ≤ xs.length) (h2 : xs.length ≤ 16) : ∃ σ, Rv .f32 (spread xs) σ ∧ 0 ≤ σ ∧ σ ≤ 22 ∧ Wi (σ * σ * (xs.length : Rat) - devS ks (meanQ ks) xs.length) (3 / 1000) := by
  have hl := h.len
  have hw := meanQ_wi h.2 (by omega)
  obtain ⟨μ, m1, m2⟩ := smean_rv h h1 h2
  obtain ⟨t, g1, g2, g3, g4⟩ := sqAcc_rv h h2 m1 hw m2 (by decide +kernel) xs.length (Nat.le_refl _)
  rw [← ssq_acc] at g1
  have hn := int_n (k := .f64) h2
  have hp := len_pos h1
  have hn16 : (xs.length : Rat) ≤ 16 := by
    have : ((xs.length : Nat) : Rat) ≤ ((16 : Nat) : Rat) := Rat.natCast_le_natCast.2 (by omega)
    exact this
  generalize (xs.length : Rat) = n at *
  obtain ⟨q, hq⟩ : ∃ q, q = t / n := ⟨_, rfl⟩
  have hqn : q * n = t := by rw [hq]; exact Rat.div_mul_cancel (Rat.ne_of_gt hp)
  have q0 : 0 ≤ q := by
    apply Rat.le_of_mul_le_mul_right _ hp
    grind
  have q4 : q ≤ 340 := by
    apply Rat.le_of_mul_le_mul_right _ hp
    rw [hqn]; exact g3
  have hqw : Wi q 340 := by unfold Wi; grind
  obtain ⟨q1, a1, a2⟩ := quo_w g1 hn (Rat.ne_of_gt hp) hqn hqw (by decide +kernel)
  have a3 : Wi (q1 - q) (1 / 1099511627776) := (a2.wi hqw).mono (by rw [ep64]; have := et64; grind)
  have a4 := a2.pos q0
  have a5 : q1 ≤ 341 := by unfold Wi at a3; grind
  have hbig := tp_big .f64
  obtain ⟨Q, r, b1, b2, b3, b4, b5⟩ := root_q a1 a4 (by grind)
  have hq1e : q1 * ep .f64 ≤ 1 / 1099511627776 := by
    rw [ep64]
    grind
  have bQ : Q ≤ 19 := by
    apply Rat.not_lt.1
    intro hc
    have k1 := Rat.mul_le_mul_of_nonneg_left (Rat.le_of_lt hc) b1
    grind
  have hQw : Wi Q 19 := by unfold Wi; grind
  have b6 : Wi (r - Q) (1 / 8589934592) := (b5.wi hQw).mono (by rw [ep64]; have := et64; grind)
  have b7 := b5.pos b1
  have hrw : Wi r 20 := by unfold Wi at b6 ⊢; grind
  have hb2 := n127_big
  have hrw' := hrw
  unfold Wi at hrw'
  obtain ⟨hf, σ, c1, c2⟩ := narrow_q b4 (by grind) (by grind)
  have c3 : Wi (σ - r) (1 / 419000) := (c2.wi hrw).mono (by rw [ep32]; have := et32; grind)
  have c4 := c2.pos b7
  have hs22 : σ ≤ 22 := by unfold Wi at c3; grind
  refine ⟨σ, c1, c4, hs22, ?_⟩
  have d1 : Wi (σ - Q) (1 / 418000) := by
    have : σ - Q = (σ - r) + (r - Q) := by grind
    rw [this]; exact (c3.add b6).mono (by decide +kernel)
  have d2 := Wi.squares d1 (show Wi σ 22 by unfold Wi; grind) hQw
  have d3 : Wi (Q * Q - q1) (1 / 1099511627776) := by unfold Wi; grind
  have d4 : Wi (σ * σ - q) (1 / 10000) := by
    have : σ * σ - q = (σ * σ - Q * Q) + ((Q * Q - q1) + (q1 - q)) := by grind
    rw [this]; exact (d2.add (d3.add a3)).mono (by decide +kernel)
  have d5 := d4.mul (Wi.self (Rat.le_of_lt hp))
  have : σ * σ * n - devS ks (meanQ ks) xs.length = (σ * σ - q) * n + (t - devS ks (meanQ ks) xs.length) := by grind
  rw [this]
  exact (d5.add g4).mono (by grind)
/-- How far two numbers are apart. -/
def gap (x y : Nat) : Nat := if flt .f64 x y then fa .sub .f64 y x else fa .sub .f64 x y
theorem gap_q {x y : Nat} {a b c : Rat} (hx : Rv .f64 x a) (hy : Rv .f64 y b) (hw : Wi (a - b) c) (hc : c < 1000000000000000000) : ∃ g, Rv .f64 (gap x y) g ∧ 0 ≤ g ∧ g ≤ c + c * ep .f64 + et .f64 := by
  unfold gap
  rw [flt_q hx hy]
  by_cases h : a < b
  · rw [if_pos (by simpa using h)]
    have hw' : Wi (b - a) c := by have := hw.neg; rwa [show -(a - b) = b - a by grind] at this
    obtain ⟨g, g1, g2⟩ := sub_w hy hx hw' hc
    have := g2.wi hw'
    refine ⟨g, g1, g2.pos (by grind), ?_⟩
    unfold Wi at this hw'; grind
  · rw [if_neg (by simpa using h)]
    obtain ⟨g, g1, g2⟩ := sub_w hx hy hw hc
    have := g2.wi hw
    refine ⟨g, g1, g2.pos (by grind), ?_⟩
    unfold Wi at this hw; grind
theorem one64 : Rv .f64 4607182418800017408 1 := ⟨false, 4503599627370496, -52, by decide +kernel, by decide +kernel⟩
theorem c001 : ∃ c, Rv .f64 4562254508917369340 c ∧ 999 / 1000000 ≤ c ∧ c ≤ 1001 / 1000000 := ⟨_, ⟨false, 4611686018427388, -62, by decide +kernel, rfl⟩, by decide +kernel, by decide +kernel⟩
theorem c01 : ∃ c, Rv .f64 4576918229304087675 c ∧ 999 / 100000 ≤ c ∧ c ≤ 1001 / 100000 := ⟨_, ⟨false, 5764607523034235, -59, by decide +kernel, rfl⟩, by decide +kernel, by decide +kernel⟩
end Go.Proofs.Ytmpmnhnobgidoaa
