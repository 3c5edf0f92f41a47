/- Floats: the operations, in rationals. -/
import Derived.Test.YtmpmnhnobgidoaaVA
namespace Go.Fl
set_option linter.unusedSimpArgs false
set_option linter.unusedVariables false
open Go Go.RowKit

theorem signed_q (s : Bool) (m : Nat) (e base : Int) (h : base ≤ e) : ((Ieee.signed s m (e - base).toNat : Int) : Rat) * two base = dq s m e := by
  have h1 : ((m <<< (e - base).toNat : Nat) : Rat) * two base = (m : Rat) * two e := by
    rw [Nat.shiftLeft_eq, Rat.natCast_mul, ← two_nat, Rat.mul_assoc, ← two_add]
    congr 2; omega
  unfold Ieee.signed dq sq
  cases s
  · simp only [Bool.false_eq_true, if_false]
    rw [Rat.intCast_natCast]; exact h1
  · simp only [if_true]
    rw [Rat.intCast_neg, Rat.intCast_natCast, Rat.neg_mul, h1]
theorem natAbs_q (t : Int) : ((t.natAbs : Nat) : Rat) = if 0 ≤ t then (t : Rat) else -(t : Rat) := by
  split
  · rename_i h; rw [← Rat.intCast_natCast]; congr 1; omega
  · rename_i h; rw [← Rat.intCast_natCast, ← Rat.intCast_neg]; congr 1; omega
theorem total_q (b : Bool) (total base : Int) : dq (if total = 0 then b else decide (total < 0)) total.natAbs base = (total : Rat) * two base := by
  unfold dq sq
  rw [natAbs_q]
  by_cases h0 : total = 0
  · subst h0; simp
  · rw [if_neg h0]
    by_cases hn : total < 0
    · rw [if_neg (show ¬ 0 ≤ total by omega)]
      simp only [hn, decide_true, if_true]
      grind
    · rw [if_pos (show 0 ≤ total by omega)]
      simp only [hn, decide_false, Bool.false_eq_true, if_false]
theorem dq_neg (s : Bool) (m : Nat) (e : Int) : dq (!s) m e = -dq s m e := by
  unfold dq sq; cases s <;> simp
theorem dq_mul (s t : Bool) (m n : Nat) (i j : Int) : dq (s ^^ t) (m * n) (i + j) = dq s m i * dq t n j := by
  unfold dq sq
  rw [Rat.natCast_mul, two_add]
  cases s <;> cases t <;> simp <;> grind
section ops
variable {k : FloatKind} {x y : Nat} {a b : Rat}
theorem add_q (hx : Rv k x a) (hy : Rv k y b) (h1 : a + b < two (tp k)) (h2 : -(a + b) < two (tp k)) : ∃ r, Rv k (fa .add k x y) r ∧ Near k (a + b) r := by
  obtain ⟨s, m, i, e1, rfl⟩ := hx
  obtain ⟨t, n, j, e2, rfl⟩ := hy
  have ht : ((Ieee.signed s m (i - min i j).toNat + Ieee.signed t n (j - min i j).toNat : Int) : Rat) * two (min i j) = dq s m i + dq t n j := by
    rw [Rat.intCast_add, Rat.add_mul, signed_q _ _ _ _ (by omega), signed_q _ _ _ _ (by omega)]
  rw [← ht, ← total_q (s && t)] at h1 h2 ⊢
  have := round_q k _ _ _ h1 h2
  unfold fa floatBits Ieee.Format.add
  simp only []
  rw [e1, e2]
  simp only [Ieee.Datum.sum, Option.map_some, Option.getD_some]
  exact this
theorem sub_q (hx : Rv k x a) (hy : Rv k y b) (h1 : a - b < two (tp k)) (h2 : -(a - b) < two (tp k)) : ∃ r, Rv k (fa .sub k x y) r ∧ Near k (a - b) r := by
  obtain ⟨s, m, i, e1, rfl⟩ := hx
  obtain ⟨t, n, j, e2, rfl⟩ := hy
  have ht : ((Ieee.signed s m (i - min i j).toNat + Ieee.signed (!t) n (j - min i j).toNat : Int) : Rat) * two (min i j) = dq s m i - dq t n j := by
    rw [Rat.intCast_add, Rat.add_mul, signed_q _ _ _ _ (by omega), signed_q _ _ _ _ (by omega), dq_neg, ← Rat.sub_eq_add_neg]
  rw [← ht, ← total_q (s && !t)] at h1 h2 ⊢
  have := round_q k _ _ _ h1 h2
  unfold fa floatBits Ieee.Format.sub
  simp only []
  rw [e1, e2]
  simp only [Ieee.Datum.opposite, Ieee.Datum.sum, Option.map_some, Option.getD_some]
  exact this
theorem mul_q (hx : Rv k x a) (hy : Rv k y b) (h1 : a * b < two (tp k)) (h2 : -(a * b) < two (tp k)) : ∃ r, Rv k (fa .mul k x y) r ∧ Near k (a * b) r := by
  obtain ⟨s, m, i, e1, rfl⟩ := hx
  obtain ⟨t, n, j, e2, rfl⟩ := hy
  rw [← dq_mul] at h1 h2 ⊢
  have := round_q k _ _ _ h1 h2
  unfold fa floatBits Ieee.Format.mul
  simp only []
  rw [e1, e2]
  simp only [Ieee.Datum.product, Option.map_some, Option.getD_some]
  exact this
/-- Rounding of what is itself only near. -/
structure Near2 (k : FloatKind) (q r : Rat) : Prop where
  hi : ∀ b, q ≤ b → -q ≤ b → r ≤ q + (b * (2 * ep k) + et k)
  lo : ∀ b, q ≤ b → -q ≤ b → q ≤ r + (b * (2 * ep k) + et k)
  pos : 0 ≤ q → 0 ≤ r
  neg : q ≤ 0 → r ≤ 0
theorem Near.two' {q r : Rat} (h : Near k q r) : Near2 k q r := by
  have he := ep_pos k
  refine ⟨fun b h1 h2 => ?_, fun b h1 h2 => ?_, h.pos, h.neg⟩
  · have := h.hi b h1 h2
    have h3 : 0 ≤ b := by grind
    have := Rat.mul_nonneg h3 (Rat.le_of_lt he)
    grind
  · have := h.lo b h1 h2
    have h3 : 0 ≤ b := by grind
    have := Rat.mul_nonneg h3 (Rat.le_of_lt he)
    grind
/-! ### Comparing -/
theorem order_q (hx : Rv k x a) (hy : Rv k y b) : k.format.order x y = some (if a < b then .lt else if a = b then .eq else .gt) := by
  obtain ⟨s, m, i, e1, rfl⟩ := hx
  obtain ⟨t, n, j, e2, rfl⟩ := hy
  unfold Ieee.Format.order
  rw [e1, e2]
  simp only [Ieee.Datum.order]
  rw [← signed_q s m i (min i j) (by omega), ← signed_q t n j (min i j) (by omega)]
  have hp := two_pos (min i j)
  generalize Ieee.signed s m (i - min i j).toNat = u
  generalize Ieee.signed t n (j - min i j).toNat = v
  generalize two (min i j) = c at *
  have h1 : ((u : Rat) * c < (v : Rat) * c) ↔ u < v := (Rat.mul_lt_mul_right hp).trans Rat.intCast_lt_intCast
  have h2 : ((u : Rat) * c = (v : Rat) * c) ↔ u = v := by
    constructor
    · intro h
      have h3 : ¬ (u : Rat) * c < (v : Rat) * c := by rw [h]; exact Rat.lt_irrefl
      have h4 : ¬ (v : Rat) * c < (u : Rat) * c := by rw [h]; exact Rat.lt_irrefl
      rw [h1] at h3
      rw [(Rat.mul_lt_mul_right hp).trans Rat.intCast_lt_intCast] at h4
      omega
    · intro h; rw [h]
  simp only [h1, h2]
  rfl
theorem flt_q (hx : Rv k x a) (hy : Rv k y b) : flt k x y = decide (a < b) := by
  unfold flt; rw [order_q hx hy]
  by_cases h : a < b
  · simp [h]
  · by_cases h2 : a = b <;> simp [h, h2]
theorem feq_q (hx : Rv k x a) (hy : Rv k y b) : feq k x y = decide (a = b) := by
  unfold feq; rw [order_q hx hy]
  by_cases h : a < b
  · have : a ≠ b := Rat.ne_of_lt h
    simp [h, this]
  · by_cases h2 : a = b
    · subst h2; simp [Rat.lt_irrefl]
    · simp [h, h2]
theorem fgt_q (hx : Rv k x a) (hy : Rv k y b) : fgt k x y = decide (b < a) := by
  unfold fgt; rw [order_q hx hy]
  by_cases h : a < b
  · have : ¬ b < a := by grind
    simp [h, this]
  · by_cases h2 : a = b
    · subst h2; simp [Rat.lt_irrefl]
    · have : b < a := by grind
      simp [h, h2, this]
theorem fle_q (hx : Rv k x a) (hy : Rv k y b) : fle k x y = decide (a ≤ b) := by
  unfold fle; rw [order_q hx hy]
  by_cases h : a < b
  · have : a ≤ b := by grind
    simp [h, this]
  · by_cases h2 : a = b
    · subst h2; simp [Rat.lt_irrefl, Rat.le_refl]
    · have : ¬ a ≤ b := by grind
      simp [h, h2, this]
theorem fge_q (hx : Rv k x a) (hy : Rv k y b) : fge k x y = decide (b ≤ a) := by
  unfold fge; rw [order_q hx hy]
  by_cases h : a < b
  · have : ¬ b ≤ a := by grind
    simp [h, this]
  · by_cases h2 : a = b
    · subst h2; simp [Rat.lt_irrefl, Rat.le_refl]
    · have : b ≤ a := by grind
      simp [h, h2, this]
theorem Rv.fin (hx : Rv k x a) : fin k x = true := by
  obtain ⟨s, m, i, e1, rfl⟩ := hx
  unfold Go.Fl.fin; rw [e1]
theorem Rv.notNan (hx : Rv k x a) : isNan k x = false := by
  obtain ⟨s, m, i, e1, rfl⟩ := hx
  unfold isNan; rw [e1]; rfl
theorem Rv.cn (hx : Rv k x a) : cn k x = x := cn_of_not hx.notNan
theorem Rv.of_cn (h : Go.Fl.cn k x = y) (hy : Rv k y a) : Rv k x a := by
  have : isNan k x = false := by rw [← isNan_cn, h]; exact hy.notNan
  rw [cn_of_not this] at h
  rw [h]; exact hy
theorem Rv.unique (hx : Rv k x a) (hy : Rv k x b) : a = b := by
  obtain ⟨s, m, i, e1, rfl⟩ := hx
  obtain ⟨t, n, j, e2, rfl⟩ := hy
  rw [e1] at e2
  cases e2; rfl
theorem Rv.of_fin (h : Go.Fl.fin k x = true) : ∃ a, Rv k x a := by
  unfold Go.Fl.fin at h
  cases e : k.format.read x with
  | number s m i => exact ⟨_, s, m, i, e, rfl⟩
  | infinity s => rw [e] at h; cases h
  | nan s t => rw [e] at h; cases h
/-- A number has the bits of its kind. -/
theorem ofInt_q (k : FloatKind) (n : Int) (h : n.natAbs < 2 ^ (fb k + 1)) : Rv k (floatOfInt k n) (n : Rat) := by
  have h3 : ((n : Int) : Rat) < two (tp k) ∧ -((n : Int) : Rat) < two (tp k) := by
    have h4 : two ((fb k + 1 : Nat) : Int) ≤ two (tp k) := two_mono (by cases k <;> decide)
    rw [two_nat] at h4
    have h5 : ((n.natAbs : Nat) : Rat) < ((2 ^ (fb k + 1) : Nat) : Rat) := Rat.natCast_lt_natCast.2 h
    rw [natAbs_q] at h5
    split at h5 <;> rename_i h6
    · have := Rat.intCast_nonneg.2 h6
      grind
    · have : (n : Rat) < 0 := Rat.intCast_neg_iff.2 (by omega)
      grind
  have hd : dq (decide (n < 0)) n.natAbs 0 = (n : Rat) := by
    have := total_q false n 0
    have e : dq (if n = 0 then false else decide (n < 0)) n.natAbs 0 = dq (decide (n < 0)) n.natAbs 0 := by
      congr 1
      by_cases h0 : n = 0
      · subst h0; simp
      · rw [if_neg h0]
    rw [← e, this]
    unfold two; simp
  obtain ⟨r, h1, h2⟩ := round_q k (decide (n < 0)) n.natAbs 0 (by rw [hd]; exact h3.1) (by rw [hd]; exact h3.2)
  rw [hd] at h2
  have := h2.ex ⟨n, 0, by unfold two; simp, h, by cases k <;> decide⟩
  subst this
  exact h1
end ops
/-! ### Between the kinds -/
theorem sc_q (K m : Nat) (e : Int) (h : -(K : Int) ≤ e) : ((sc K m e : Nat) : Rat) = (m : Rat) * two e * two (K : Int) := by
  unfold sc
  rw [Rat.natCast_mul, two_toNat (show 0 ≤ e + (K : Int) by omega), two_add, Rat.mul_assoc]
theorem widen_q {x : Nat} {a : Rat} (hx : Rv .f32 x a) : Rv .f64 (widen x) a := by
  obtain ⟨s, m, i, e1, rfl⟩ := hx
  obtain ⟨m', e', h1, h2, h3, -⟩ := widen_read (x := x) e1
  refine ⟨s, m', e', h1, ?_⟩
  have hi : -149 ≤ i := by have := (single_read x e1).2.1; omega
  have hq := congrArg (fun n : Nat => (n : Rat)) h3
  rw [sc_q K64 m' e' (by rw [K64_is]; exact h2), sc_q K64 m i (by rw [K64_is]; omega)] at hq
  have hp := two_pos (K64 : Int)
  have : (m' : Rat) * two e' = (m : Rat) * two i := by
    have h5 := congrArg (· * (two (K64 : Int))⁻¹) hq
    simp only [Rat.mul_assoc, Rat.mul_inv_cancel _ (Rat.ne_of_gt hp), Rat.mul_one] at h5
    exact h5
  unfold dq
  rw [this]
theorem narrow_q {x : Nat} {a : Rat} (hx : Rv .f64 x a) (h1 : a < two 127) (h2 : -a < two 127) : fits x ∧ ∃ r, Rv .f32 (narrow x) r ∧ Near .f32 a r := by
  obtain ⟨s, m, i, e1, rfl⟩ := hx
  obtain ⟨r, h3, h4⟩ := round_q .f32 s m i h1 h2
  have hn : narrow x = FloatKind.f32.format.nearest s m i := by
    unfold narrow
    rw [show FloatKind.f64.decode x = .number s m i from e1]
    rfl
  refine ⟨?_, r, by rw [hn]; exact h3, h4⟩
  intro s' m' e' hd
  rw [show FloatKind.f64.decode x = .number s m i from e1] at hd
  cases hd
  obtain ⟨t, n, j, g, -⟩ := h3
  show (FloatKind.f32.format.read (FloatKind.f32.format.nearest s m i)).isInfinity = false
  rw [g]; rfl
end Go.Fl
