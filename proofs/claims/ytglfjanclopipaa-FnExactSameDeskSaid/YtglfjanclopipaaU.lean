/- Walks: the same cycles. -/
import Derived.Test.YtglfjanclopipaaA
import Derived.Test.YtglfjanclopipaaT
namespace Go.Proofs.Ytglfjanclopipaa
set_option linter.unusedSimpArgs false
set_option linter.unusedVariables false
open Go.RowKit Go.Fl

def bitsOf (x : Nat) : Nat := if isNan .f32 x then 2143289344 else x
def same32 (x y : Nat) : Bool := bitsOf x == bitsOf y
theorem isNan_bits : isNan .f32 2143289344 = true := by decide
theorem ne_self (x : Nat) : (FloatKind.f32.format.order x x != some .eq) = isNan .f32 x := by
  cases h : isNan .f32 x
  · rw [order_self h]; rfl
  · rw [od_nan_left h]; rfl
theorem eq_self (x : Nat) : (FloatKind.f32.format.order x x == some .eq) = !isNan .f32 x := by
  cases h : isNan .f32 x
  · rw [order_self h]; rfl
  · rw [od_nan_left h]; rfl
/-- How the program tells whether two numbers are the same. -/
theorem same32_eq {x y : Nat} (hx : x < 4294967296) (hy : y < 4294967296) :
    same32 x y = if isNan .f32 x || isNan .f32 y then isNan .f32 x && isNan .f32 y else feq .f32 x y && (sgn x == sgn y) := by
  unfold same32 bitsOf
  cases h1 : isNan .f32 x <;> cases h2 : isNan .f32 y <;> simp only [Bool.false_eq_true, if_false, if_true, Bool.or_self, Bool.or_true, Bool.true_or, Bool.and_self, Bool.and_false, Bool.false_and]
  · by_cases e : x = y
    · subst e
      simp only [feq, order_self h1]; simp
    · cases he : feq .f32 x y
      · simp [e]
      · have : ¬ sgn x = sgn y := fun hs => e (bits_eq hx hy he hs)
        have e1 : (x == y) = false := beq_eq_false_iff_ne.2 e
        have e2 : (sgn x == sgn y) = false := beq_eq_false_iff_ne.2 this
        rw [e1, e2]; rfl
  · have : x ≠ 2143289344 := fun e => by subst e; rw [isNan_bits] at h1; cases h1
    simp [this]
  · have : 2143289344 ≠ y := fun e => by subst e; rw [isNan_bits] at h2; cases h2
    simp [this]
  · simp
theorem word_sign (neg : Bool) {r : Nat} (h : r ≤ Ieee.double.infRung) : decide (9223372036854775808 ≤ Ieee.double.word neg r) = neg ∧ Ieee.double.word neg r < 18446744073709551616 := by
  have e1 : Ieee.double.signWeight = 9223372036854775808 := by decide
  have e3 : Ieee.double.infRung = 9218868437227405312 := by decide
  unfold Ieee.Format.word
  rw [e1]
  rw [e3] at h
  cases neg
  · simp; omega
  · simp; omega
/-- The sign of a 32-bit number made a 64-bit one. -/
theorem widen_sign (x : Nat) (h : isNan .f32 x = false) : decide (9223372036854775808 ≤ widen x) = sgn x ∧ widen x < 18446744073709551616 := by
  unfold widen
  have hd : FloatKind.f32.decode x = Ieee.single.read x := rfl
  rw [hd]
  cases hr : Ieee.single.read x with
  | number s m i =>
    obtain ⟨rfl, -⟩ := single_form x hr
    show decide (_ ≤ Ieee.double.nearest (sgn x) m i) = sgn x ∧ Ieee.double.nearest (sgn x) m i < _
    unfold Ieee.Format.nearest
    dsimp only
    split
    · exact word_sign _ (Nat.zero_le _)
    · exact word_sign _ (Nat.min_le_right ..)
  | infinity s =>
    obtain ⟨rfl, -⟩ := single_inf x hr
    exact word_sign _ (Nat.le_refl _)
  | nan s t =>
    have : (FloatKind.f32.format.read x).isNaN = false := h
    rw [show FloatKind.f32.format.read x = Ieee.single.read x from rfl, hr] at this
    cases this
theorem run_f32bits (x : Nat) (w : World) : (callFunc 132 #[.float .f32 x]).run Try.prog w = .ok (.value (.int .u32 x)) w := by
  rw [run_callFunc_extern (e := Extern.MathFloatBits.float32bits) Try.func132 (by kernel_rfl) (by kernel_rfl) (by kernel_rfl) (by kernel_rfl)]
  rfl
theorem s_l01Bits (x : Nat) (w : World) (hx : x < 4294967296) : Calls Try.prog 110 #[.float .f32 x] w fun e w' => e = .returned (.int .i64 (bitsOf x : Nat)) ∧ ∃ n, w' = w.drewN n := by
  have h0 := ne_self x
  have hw : IntKind.i64.wrap (x : Int) = (x : Int) := by rw [IntKind.wrap_i64]; omega
  have hfb := run_f32bits x
  cases h : isNan .f32 x
  all_goals
    rw [h] at h0
    go_enter Try.func110, Try.ntmps110
    go_wp2
    go_ret
    exact ⟨by unfold bitsOf; rw [h]; rfl, 0, rfl⟩
theorem s_l01Same (x y : Nat) (w : World) (hx : x < 4294967296) (hy : y < 4294967296) : Calls Try.prog 56 #[.float .f32 x, .float .f32 y] w fun e w' => e = .returned (.bool (same32 x y)) ∧ ∃ n, w' = w.drewN n := by
  go_enter Try.func56, Try.ntmps56
  go_wp2_with (go_at_call 110; refine (s_l01Bits _ _ (by assumption)).mono ?_; rintro e w' ⟨rfl, n, rfl⟩)
  go_ret
  exact ⟨congrArg (fun b => Ending.returned (.bool b)) (show (((bitsOf x : Nat) : Int) == ((bitsOf y : Nat) : Int)) = same32 x y by unfold same32; rw [Bool.eq_iff_iff]; simp [Int.ofNat_inj]), _, rfl⟩
theorem run_f64bits (x : Nat) (w : World) : (callFunc 133 #[.float .f64 x]).run Try.prog w = .ok (.value (.int .u64 x)) w := by
  rw [run_callFunc_extern (e := Extern.MathFloatBits.float64bits) Try.func133 (by kernel_rfl) (by kernel_rfl) (by kernel_rfl) (by kernel_rfl)]
  rfl
theorem f_Signbit (r : Nat) (b : Bool) (hb : decide (9223372036854775808 ≤ r) = b) (hlt : r < 18446744073709551616) (w : World) : Calls Try.prog 112 #[.float .f64 r] w fun e w' => e = .returned (.bool b) ∧ ∃ n, w' = w.drewN n := by
  have hfb := run_f64bits r
  cases b
  · have hr : r < 9223372036854775808 := by simpa using hb
    have hw : IntKind.i64.wrap (r : Int) = (r : Int) := by rw [IntKind.wrap_i64]; omega
    clear hb
    go_enter Try.func112, Try.ntmps112
    go_wp2
    go_ret
    exact ⟨by simp, 0, rfl⟩
  · have hr : 9223372036854775808 ≤ r := by simpa using hb
    have hw : IntKind.i64.wrap (r : Int) = (r : Int) - 18446744073709551616 := by rw [IntKind.wrap_i64]; omega
    clear hb
    go_enter Try.func112, Try.ntmps112
    go_wp2
    go_ret
    exact ⟨by simp; omega, 0, rfl⟩
theorem widen_is {r x : Nat} (h : isNan .f32 x = false) (hr : Hid (cn .f64 r = widen (cn .f32 x))) : r = widen x := by
  have h1 := widen_notNaN h
  have hr' := hr.out
  rw [cn_of_not h] at hr'
  have h2 : isNan .f64 r = false := by rw [← isNan_cn, hr']; exact h1
  rw [cn_of_not h2] at hr'
  exact hr'
theorem sign_of {r x : Nat} (h : Hid (isNan .f32 x = false)) (hr : Hid (cn .f64 r = widen (cn .f32 x))) : decide (9223372036854775808 ≤ r) = sgn x := by rw [widen_is h.out hr]; exact (widen_sign x h.out).1
theorem lt_of {r x : Nat} (h : Hid (isNan .f32 x = false)) (hr : Hid (cn .f64 r = widen (cn .f32 x))) : r < 18446744073709551616 := by rw [widen_is h.out hr]; exact (widen_sign x h.out).2
set_option maxHeartbeats 1000000 in
theorem i_SameNumber (x y : Nat) (w : World) (hx : x < 4294967296) (hy : y < 4294967296) : Calls Try.prog 64 #[.float .f32 x, .float .f32 y] w fun e w' => e = .returned (.bool (same32 x y)) ∧ ∃ n, w' = w.drewN n := by
  have HS := Lib.hid (same32_eq hx hy)
  have h0 := ne_self x
  have h1 := ne_self y
  clear hx hy
  cases ha : isNan .f32 x
  case true =>
    rw [ha] at h0
    rw [ha] at HS
    cases hb : isNan .f32 y
    all_goals
      rw [hb] at h1
      have HB := Lib.hid hb
      clear hb
      go_enter Try.func64, Try.ntmps64
      go_wp2
      go_ret
      exact ⟨by rw [HS.out, HB.out]; rfl, 0, rfl⟩
  case false =>
    rw [ha] at h0
    rw [ha] at HS
    cases hb : isNan .f32 y
    case true =>
      rw [hb] at h1
      have HB := Lib.hid hb
      clear hb
      go_enter Try.func64, Try.ntmps64
      go_wp2
      go_ret
      exact ⟨by rw [HS.out, HB.out]; rfl, 0, rfl⟩
    case false =>
      rw [hb] at h1
      have HA := Lib.hid ha
      have HB := Lib.hid hb
      clear ha hb
      cases he : feq .f32 x y
      all_goals
        have he' : (FloatKind.f32.format.order x y == some .eq) = _ := he
        have HE := Lib.hid he
        clear he
        go_enter Try.func64, Try.ntmps64
        go_wp2_with (first | (refine wpList_widen (dst := 114) rfl rfl rfl (by kernel_rfl) (by exact Try.underlying114) (by first | assumption | exact hrfl _) ?_; intro r n hr) | (go_at_call 112; first | (refine (f_Signbit _ _ (sign_of HA hr) (lt_of HA hr) _).mono ?_; rintro e w' ⟨rfl, n, rfl⟩) | (refine (f_Signbit _ _ (sign_of HB hr) (lt_of HB hr) _).mono ?_; rintro e w' ⟨rfl, n, rfl⟩)))
        go_ret
        first
          | exact ⟨by rw [HS.out, HB.out, HE.out]; rfl, 0, rfl⟩
          | exact ⟨by rw [HS.out, HB.out, HE.out]; rfl, _, rfl⟩
end Go.Proofs.Ytglfjanclopipaa
