/- Floats: exact whole numbers, and bounds of errors. -/
import Derived.Test.YtmpmnhnobgidoaaVC
namespace Go.Fl
set_option linter.unusedSimpArgs false
set_option linter.unusedVariables false
open Go Go.RowKit

theorem ep32 : ep .f32 = 1 / 8388608 := by decide +kernel
theorem ep64 : ep .f64 = 1 / 4503599627370496 := by decide +kernel
theorem et32 : et .f32 ≤ 1 / 1152921504606846976 := by
  have : two (-149) ≤ two (-60) := two_mono (by omega)
  exact Rat.le_trans this (by decide +kernel)
theorem et64 : et .f64 ≤ 1 / 1152921504606846976 := by
  have : two (-1074) ≤ two (-60) := two_mono (by omega)
  exact Rat.le_trans this (by decide +kernel)
theorem tp_big (k : FloatKind) : 1000000000000000000 < two (tp k) := by
  have : two 60 ≤ two (tp k) := two_mono (by cases k <;> decide)
  exact Std.lt_of_lt_of_le (by decide +kernel) this
theorem tp_big1 (k : FloatKind) : 1000000000000000000 < two (tp k - 1) := by
  have : two 60 ≤ two (tp k - 1) := two_mono (by cases k <;> decide)
  exact Std.lt_of_lt_of_le (by decide +kernel) this
theorem n127_big : 1000000000000000000 < two 127 := tp_big .f32
/-- Within a bound. -/
def Wi (x b : Rat) : Prop := -b ≤ x ∧ x ≤ b
theorem Wi.nonneg {x b : Rat} (h : Wi x b) : 0 ≤ b := by unfold Wi at h; grind
theorem Wi.mono {x b c : Rat} (h : Wi x b) (hc : b ≤ c) : Wi x c := by unfold Wi at *; grind
theorem Wi.add {x y b c : Rat} (h : Wi x b) (g : Wi y c) : Wi (x + y) (b + c) := by unfold Wi at *; grind
theorem Wi.sub {x y b c : Rat} (h : Wi x b) (g : Wi y c) : Wi (x - y) (b + c) := by unfold Wi at *; grind
theorem Wi.neg {x b : Rat} (h : Wi x b) : Wi (-x) b := by unfold Wi at *; grind
theorem Wi.mul {x y b c : Rat} (h : Wi x b) (g : Wi y c) : Wi (x * y) (b * c) := by
  have hb := h.nonneg
  have hc := g.nonneg
  unfold Wi at *
  have key : ∀ u v : Rat, -b ≤ u → u ≤ b → 0 ≤ v → v ≤ c → u * v ≤ b * c ∧ -(b * c) ≤ u * v := by
    intro u v h1 h2 h3 h4
    have k1 := Rat.mul_le_mul_of_nonneg_right h2 h3
    have k2 := Rat.mul_le_mul_of_nonneg_left h4 hb
    have k3 := Rat.mul_le_mul_of_nonneg_right h1 h3
    grind
  by_cases hy : 0 ≤ y
  · have := key x y h.1 h.2 hy g.2; grind
  · have := key x (-y) h.1 h.2 (by grind) (by grind); grind
theorem Wi.self {x : Rat} (h : 0 ≤ x) : Wi x x := by unfold Wi; grind
/-- A difference of squares. -/
theorem Wi.squares {x y e b c : Rat} (h : Wi (x - y) e) (hx : Wi x b) (hy : Wi y c) : Wi (x * x - y * y) (e * (b + c)) := by
  have := Wi.mul h (Wi.add hx hy)
  rwa [show (x - y) * (x + y) = x * x - y * y by grind] at this
section
variable {k : FloatKind} {x y : Nat}
theorem Near.wi {q r b : Rat} (h : Near k q r) (hb : Wi q b) : Wi (r - q) (b * ep k + et k) := by
  have h1 := h.hi b hb.2 (by unfold Wi at hb; grind)
  have h2 := h.lo b hb.2 (by unfold Wi at hb; grind)
  unfold Wi; grind
theorem Near2.wi {q r b : Rat} (h : Near2 k q r) (hb : Wi q b) : Wi (r - q) (b * (2 * ep k) + et k) := by
  have h1 := h.hi b hb.2 (by unfold Wi at hb; grind)
  have h2 := h.lo b hb.2 (by unfold Wi at hb; grind)
  unfold Wi; grind
theorem Wi.lt {q b : Rat} (hb : Wi q b) (hc : b < 1000000000000000000) : q < two (tp k) ∧ -q < two (tp k) := by
  have := tp_big k; unfold Wi at hb; grind
theorem Wi.lt1 {q b : Rat} (hb : Wi q b) (hc : b < 1000000000000000000) : q < two (tp k - 1) ∧ -q < two (tp k - 1) := by
  have := tp_big1 k; unfold Wi at hb; grind
theorem add_w {a b c : Rat} (hx : Rv k x a) (hy : Rv k y b) (hb : Wi (a + b) c) (hc : c < 1000000000000000000) : ∃ r, Rv k (fa .add k x y) r ∧ Near k (a + b) r :=
  add_q hx hy (hb.lt hc).1 (hb.lt hc).2
theorem sub_w {a b c : Rat} (hx : Rv k x a) (hy : Rv k y b) (hb : Wi (a - b) c) (hc : c < 1000000000000000000) : ∃ r, Rv k (fa .sub k x y) r ∧ Near k (a - b) r :=
  sub_q hx hy (hb.lt hc).1 (hb.lt hc).2
theorem mul_w {a b c : Rat} (hx : Rv k x a) (hy : Rv k y b) (hb : Wi (a * b) c) (hc : c < 1000000000000000000) : ∃ r, Rv k (fa .mul k x y) r ∧ Near k (a * b) r :=
  mul_q hx hy (hb.lt hc).1 (hb.lt hc).2
theorem quo_w {a b q c : Rat} (hx : Rv k x a) (hy : Rv k y b) (h0 : b ≠ 0) (hq : q * b = a) (hb : Wi q c) (hc : c < 1000000000000000000) : ∃ r, Rv k (fa .quo k x y) r ∧ Near2 k q r :=
  quo_q hx hy h0 hq (hb.lt1 hc).1 (hb.lt1 hc).2
theorem natAbs_wi (n : Int) (N : Nat) (h : n.natAbs ≤ N) : Wi (n : Rat) (N : Rat) := by
  have h5 : ((n.natAbs : Nat) : Rat) ≤ (N : Rat) := Rat.natCast_le_natCast.2 h
  rw [natAbs_q] at h5
  unfold Wi
  split at h5 <;> rename_i h6
  · have := Rat.intCast_nonneg.2 h6
    grind
  · have : (n : Rat) < 0 := Rat.intCast_neg_iff.2 (by omega)
    grind
/-- Whole numbers are added, subtracted and multiplied exactly. -/
theorem rep_int {n : Int} (h : n.natAbs < 2 ^ (fb k + 1)) : Rep k (n : Rat) := ⟨n, 0, by rw [show two 0 = 1 from rfl, Rat.mul_one], h, by cases k <;> decide⟩
theorem int_lt {n : Int} (h : n.natAbs < 2 ^ (fb k + 1)) : Wi (n : Rat) 9007199254740992 := by
  have h2 : n.natAbs ≤ 9007199254740992 := by
    have : 2 ^ (fb k + 1) ≤ 9007199254740992 := by cases k <;> decide
    omega
  exact natAbs_wi n _ h2
theorem add_int {a b : Int} (hx : Rv k x (a : Rat)) (hy : Rv k y (b : Rat)) (h : (a + b).natAbs < 2 ^ (fb k + 1)) : Rv k (fa .add k x y) ((a + b : Int) : Rat) := by
  obtain ⟨r, h1, h2⟩ := add_w hx hy (by rw [← Rat.intCast_add]; exact int_lt h) (by decide +kernel)
  rw [← Rat.intCast_add] at h2
  have := h2.ex (rep_int h)
  rw [this] at h1; exact h1
theorem sub_int {a b : Int} (hx : Rv k x (a : Rat)) (hy : Rv k y (b : Rat)) (h : (a - b).natAbs < 2 ^ (fb k + 1)) : Rv k (fa .sub k x y) ((a - b : Int) : Rat) := by
  obtain ⟨r, h1, h2⟩ := sub_w hx hy (by rw [← Rat.intCast_sub]; exact int_lt h) (by decide +kernel)
  rw [← Rat.intCast_sub] at h2
  have := h2.ex (rep_int h)
  rw [this] at h1; exact h1
theorem mul_int {a b : Int} (hx : Rv k x (a : Rat)) (hy : Rv k y (b : Rat)) (h : (a * b).natAbs < 2 ^ (fb k + 1)) : Rv k (fa .mul k x y) ((a * b : Int) : Rat) := by
  obtain ⟨r, h1, h2⟩ := mul_w hx hy (by rw [← Rat.intCast_mul]; exact int_lt h) (by decide +kernel)
  rw [← Rat.intCast_mul] at h2
  have := h2.ex (rep_int h)
  rw [this] at h1; exact h1
theorem rv_zero (k : FloatKind) : Rv k 0 0 := by
  refine ⟨false, 0, pl k, ?_, ?_⟩
  · cases k <;> decide
  · unfold dq sq; simp
theorem rv_zero' (k : FloatKind) : Rv k 0 ((0 : Int) : Rat) := rv_zero k
/-! ### In walks: what an operation gives, there -/
theorem bits_of {op : BinOp} {q : Rat} (h : Rv k (fa op k x y) q) : floatBits op k x y = some (fa op k x y) := by
  have hn := h.notNan
  unfold fa at hn ⊢
  cases hf : floatBits op k x y with
  | none => rw [hf] at hn; rw [Option.getD_none, isNan_qn] at hn; cases hn
  | some r => rfl
theorem widen_bits {x : Nat} {q : Rat} (h : Rv .f32 x q) : floatToFloatBits .f32 x .f64 = some (widen x) := by
  have hw := widen_q h
  obtain ⟨s, m, i, e1, -⟩ := h
  obtain ⟨t, n, j, e2, -⟩ := hw
  have e1' : FloatKind.f32.decode x = .number s m i := e1
  have hwd : widen x = FloatKind.f64.encode (.number s m i) := by unfold widen; rw [e1']
  unfold floatToFloatBits
  rw [if_neg (by decide), e1']
  simp only []
  rw [← hwd, show FloatKind.f64.decode (widen x) = .number t n j from e2]
  rfl
theorem narrow_bits {x : Nat} {q : Rat} (h : Rv .f64 x q) (h1 : q < two 127) (h2 : -q < two 127) : floatToFloatBits .f64 x .f32 = some (narrow x) := by
  obtain ⟨hf, r, hr, -⟩ := narrow_q h h1 h2
  obtain ⟨s, m, i, e1, -⟩ := h
  obtain ⟨t, n, j, e2, -⟩ := hr
  have e1' : FloatKind.f64.decode x = .number s m i := e1
  have hwd : narrow x = FloatKind.f32.encode (.number s m i) := by unfold narrow; rw [e1']
  unfold floatToFloatBits
  rw [if_neg (by decide), e1']
  simp only []
  rw [← hwd, show FloatKind.f32.decode (narrow x) = .number t n j from e2]
  rfl
theorem run_arith {P : Program} {op : BinOp} (t : TypeId) {q : Rat} (h : Rv k (fa op k x y) q) : ∀ w, (binOp op t (.float k x) (.float k y)).run P w = .ok (.float k (fa op k x y)) w := fun w => run_float_arith w op t k x y _ (bits_of h)
theorem run_wide {P : Program} {src dst : TypeId} {x : Nat} {q : Rat} (hs : (P.underlying src).isSome = true) (hd : P.underlying dst = some (.float .f64)) (h : Rv .f32 x q) : ∀ w, (convert src dst (.float .f32 x)).run P w = .ok (.float .f64 (widen x)) w := fun w => run_convert_float_float w src dst .f32 .f64 x _ hs hd (widen_bits h)
theorem run_narr {P : Program} {src dst : TypeId} {x : Nat} {q : Rat} (hs : (P.underlying src).isSome = true) (hd : P.underlying dst = some (.float .f32)) (h : Rv .f64 x q) (h1 : q < two 127) (h2 : -q < two 127) : ∀ w, (convert src dst (.float .f64 x)).run P w = .ok (.float .f32 (narrow x)) w := fun w => run_convert_float_float w src dst .f64 .f32 x _ hs hd (narrow_bits h h1 h2)
end
end Go.Fl
