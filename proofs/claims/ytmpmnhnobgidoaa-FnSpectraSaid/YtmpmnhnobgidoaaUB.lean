/- Walks: sines and points of the unit circle. -/
import Derived.Test.YtmpmnhnobgidoaaUA
import Derived.Test.YtmpmnhnobgidoaaO
import Derived.Laws.FloatBits
import Derived.Laws.Cover3
import Derived.Laws.ComplexArith
namespace Go.Proofs.Ytmpmnhnobgidoaa
set_option linter.unusedSimpArgs false
set_option linter.unusedVariables false
open Go.RowKit Go.Fl

theorem to_int_zero {x : Nat} {q : Rat} (h : Rv .f64 x q) (h1 : q < 1) (h2 : -q < 1) : floatToIntVal .f64 x .i64 = some 0 := by
  obtain ⟨s, m, e, e1, -, e3⟩ := trunc_small h h1 h2
  unfold floatToIntVal
  rw [e1, e3]
  rfl
theorem and_low {x : Nat} (h : x < 2 ^ 64) : bits .andNot .u64 (x : Int) 9223372036854775808 = ((x % 2 ^ 63 : Nat) : Int) := by
  have := u64_andNot_nat x 9223372036854775808 (by simpa using h) (by decide)
  rw [show ((9223372036854775808 : Nat) : Int) = 9223372036854775808 from rfl] at this
  rw [this]
  congr 1
  rw [show 18446744073709551615 - 9223372036854775808 = 2 ^ 63 - 1 from rfl, Nat.and_two_pow_sub_one_eq_mod]
/-- Tests against a quarter, a half and others, for what lies between. -/
theorem order_lt {k : FloatKind} {x y : Nat} {a b : Rat} (hx : Rv k x a) (hy : Rv k y b) (h : a < b) : k.format.order x y = some .lt := by rw [order_q hx hy, if_pos h]
theorem order_eq {k : FloatKind} {x y : Nat} {a b : Rat} (hx : Rv k x a) (hy : Rv k y b) (h : a = b) : k.format.order x y = some .eq := by rw [order_q hx hy, if_neg (by rw [h]; exact Rat.lt_irrefl), if_pos h]
theorem order_gt {k : FloatKind} {x y : Nat} {a b : Rat} (hx : Rv k x a) (hy : Rv k y b) (h : b < a) : k.format.order x y = some .gt := by
  rw [order_q hx hy, if_neg (by grind), if_neg (by grind)]
theorem not_lt {k : FloatKind} {x y : Nat} {a b : Rat} (hx : Rv k x a) (hy : Rv k y b) (h : b ≤ a) : (k.format.order x y == some .lt) = false := by
  have := flt_q hx hy
  rw [decide_eq_false (Rat.not_lt.2 h)] at this
  exact this
theorem huge_rv : Rv .f64 4841369599423283200 4503599627370496 := ⟨false, 4503599627370496, 0, by decide +kernel, by decide +kernel⟩
theorem nhuge_rv : Rv .f64 14064741636278059008 (-4503599627370496) := ⟨true, 4503599627370496, 0, by decide +kernel, by decide +kernel⟩
theorem fa_quo_lt (x y : Nat) : fa .quo .f64 x y < 2 ^ 64 := by
  unfold fa
  cases h : floatBits .quo .f64 x y with
  | none => decide
  | some r => exact Ieee.Format.div_lt FloatKind.f64.format h
/-! ### The counter of the series -/
def bitsOfV : Value → Nat
  | .float _ x => x
  | _ => 0
def kW (j : Nat) : Nat := floatOfInt .f64 (kOf j)
theorem kW_all : ∀ j : Fin 9, (j.val < 8 → fa .mul .f64 (fa .mul .f64 4611686018427387904 (kW j.val)) (fa .add .f64 (fa .mul .f64 4611686018427387904 (kW j.val)) 4607182418800017408) = den j.val ∧ fa .sub .f64 (kW j.val) 4607182418800017408 = kW (j.val + 1) ∧ fin .f64 (fa .mul .f64 4611686018427387904 (kW j.val)) = true ∧ fin .f64 (fa .add .f64 (fa .mul .f64 4611686018427387904 (kW j.val)) 4607182418800017408) = true ∧ fin .f64 (den j.val) = true ∧ fin .f64 (kW (j.val + 1)) = true) := by decide +kernel
theorem kW_less : ∀ j : Fin 8, kW (j.val + 1) < kW j.val := by decide +kernel
theorem kW_ge : ∀ j : Fin 9, FloatKind.f64.format.order (kW j.val) 4607182418800017408 = some (if j.val < 7 then .gt else if j.val = 7 then .eq else .lt) := by decide +kernel
theorem kW_ge' {j : Nat} (h : j ≤ 8) : FloatKind.f64.format.order (kW j) 4607182418800017408 = some (if j < 7 then .gt else if j = 7 then .eq else .lt) := kW_ge ⟨j, by omega⟩
theorem kW_less' {j : Nat} (h : j < 8) : kW (j + 1) < kW j := kW_less ⟨j, h⟩
theorem run_fin {P : Program} {k : FloatKind} {op : BinOp} (t : TypeId) {x y : Nat} (h : fin k (fa op k x y) = true) : ∀ w, (binOp op t (.float k x) (.float k y)).run P w = .ok (.float k (fa op k x y)) w := by
  obtain ⟨q, hq⟩ := Rv.of_fin h
  exact run_arith t hq
theorem run_trunc (x : Nat) {q : Rat} (h : Rv .f64 x q) (h1 : q < 1) (h2 : -q < 1) : ∃ s : Bool, ∀ w : World, (callFunc 117 #[.float .f64 x]).run Try.prog w = .ok (.value (.float .f64 (if s then 2 ^ 63 else 0))) w := by
  obtain ⟨s, m, e, e1, e2, -⟩ := trunc_small h h1 h2
  refine ⟨s, fun w => ?_⟩
  rw [run_callFunc_extern (e := Extern.MathFloor.toIntegral "math.archTrunc" .zero) Try.func117 (by kernel_rfl) (by kernel_rfl) (by kernel_rfl) (by kernel_rfl)]
  have e : Extern.MathFloor.toIntegral "math.archTrunc" .zero #[.float .f64 x] = (match FloatKind.f64.decode x with
    | .nan s t =>
      if FloatKind.f64.format.quiet t = t then pure (.float .f64 x) else do
      let kept ← choose (.extern "math.Floor,Ceil,Trunc,RoundToEven.signallingNaN kept" 2)
      pure (.float .f64 (if kept == 1 then x else FloatKind.f64.encode (.nan s (FloatKind.f64.format.quiet t))))
    | d => pure (.float .f64 (FloatKind.f64.encode (d.integral .zero)))) := rfl
  rw [e, e1]
  simp only []
  rw [e2]
  rfl
theorem f_Trunc (x : Nat) {q : Rat} (h : Rv .f64 x q) (h1 : q < 1) (h2 : -q < 1) (w : World) : Calls Try.prog 111 #[.float .f64 x] w fun e w' => (∃ s : Bool, e = .returned (.float .f64 (if s then 2 ^ 63 else 0))) ∧ ∃ n, w' = w.drewN n := by
  obtain ⟨s, hf⟩ := run_trunc x h h1 h2
  generalize hz : (if s then 2 ^ 63 else 0 : Nat) = z at *
  have HZ := Lib.hid hz
  clear hz h h1 h2
  go_enter Try.func111, Try.ntmps111
  go_wp2
  go_ret
  exact ⟨⟨s, by rw [HZ.out]; rfl⟩, 0, rfl⟩
theorem i_partOfTurn (x : Nat) {q : Rat} (h : Rv .f64 x q) (h0 : 0 ≤ q) (h1 : q < 1) (w : World) : Calls Try.prog 100 #[.float .f64 x] w fun e w' => e = .returned (.float .f64 (fa .sub .f64 x 0)) ∧ ∃ n, w' = w.drewN n := by
  have HT := Lib.hid (f_Trunc x h h1 (by grind) w)
  have hf := sub_zero_rv h (by unfold Wi; grind)
  have r1 := run_arith (P := Try.prog) 37 hf
  have hn := not_lt hf (rv_zero .f64) h0
  clear h h0 h1 hf
  generalize fa .sub .f64 x 0 = F at *
  go_enter Try.func100, Try.ntmps100
  go_wp2_with fail
  refine HT.out.mono ?_
  rintro e w' ⟨⟨s, rfl⟩, n, rfl⟩
  have hz := order_eq (zero_rv s) (rv_zero .f64) rfl
  generalize (if s then 2 ^ 63 else 0 : Nat) = z at *
  go_wp2
  go_ret
  exact ⟨rfl, _, rfl⟩
theorem run_f64bitsU (x : Nat) (w : World) : (callFunc 116 #[.float .f64 x]).run Try.prog w = .ok (.value (.int .u64 x)) w := by
  rw [run_callFunc_extern (e := Extern.MathFloatBits.float64bits) Try.func116 (by kernel_rfl) (by kernel_rfl) (by kernel_rfl) (by kernel_rfl)]
  rfl
theorem run_from64U (x : Nat) (w : World) : (callFunc 109 #[.int .u64 (x : Int)]).run Try.prog w = .ok (.value (.float .f64 x)) w := by
  rw [run_callFunc_extern (e := Extern.MathFloatBits.float64frombits) Try.func109 (by kernel_rfl) (by kernel_rfl) (by kernel_rfl) (by kernel_rfl)]
  rfl
theorem f_Abs (x : Nat) (h : x < 2 ^ 64) (w : World) : Calls Try.prog 110 #[.float .f64 x] w fun e w' => e = .returned (.float .f64 (x % 2 ^ 63)) ∧ w' = w := by
  have ha := and_low h
  have r1 := run_f64bitsU x
  have r2 := run_from64U (x % 2 ^ 63)
  clear h
  generalize x % 2 ^ 63 = y at *
  go_enter Try.func110, Try.ntmps110
  go_wp2
  go_ret
  exact ⟨rfl, rfl⟩
theorem i_isHuge (x : Nat) {q : Rat} (hx : x < 2 ^ 64) (h : Rv .f64 x q) (hw : Wi q 1000) (w : World) : Calls Try.prog 99 #[.float .f64 x] w fun e w' => e = .returned (.bool false) ∧ ∃ n, w' = w.drewN n := by
  have HA := Lib.hid (f_Abs x hx w)
  have ho : FloatKind.f64.format.order (x % 2 ^ 63) 4841369599423283200 = some .lt := by
    by_cases h0 : 0 ≤ q
    · exact order_lt (abs_rv h h0) huge_rv (by unfold Wi at hw; grind)
    · exact order_lt (abs_rv' h (by grind)) huge_rv (by unfold Wi at hw; grind)
  clear h hw hx
  generalize x % 2 ^ 63 = y at *
  go_enter Try.func99, Try.ntmps99
  go_wp2_with fail
  refine HA.out.mono ?_
  rintro e w' ⟨rfl, rfl⟩
  go_wp2
  go_ret
  exact ⟨rfl, 0, rfl⟩
set_option maxHeartbeats 1000000 in
theorem i_sine (y : Nat) {q : Rat} (h : Rv .f64 y q) (h0 : 0 ≤ q) (h1 : q ≤ 26 / 100) (w : World) : Calls Try.prog 101 #[.float .f64 y] w fun e w' => e = .returned (.float .f64 (sineW y)) ∧ ∃ n, w' = w.drewN n := by
  have HP := Lib.hid (fun W => i_partOfTurn y h h0 (by grind) W)
  have HF := Lib.hid (sinF h h0 h1)
  obtain ⟨v, f1, f2, f3⟩ := HF.out.f
  have ho := order_lt f1 hw_rv (by grind)
  have hsz : sinZ y = fa .mul .f64 (fold4 (fa .sub .f64 y 0)) TW := rfl
  obtain ⟨qz, hz⟩ := HF.out.z
  obtain ⟨qu, hu⟩ := HF.out.u
  obtain ⟨qg, hg⟩ := HF.out.g
  rw [hsz] at hz
  unfold fold4 at hz hsz
  have ru := run_arith (P := Try.prog) 37 (show Rv .f64 (fa .mul .f64 (sinZ y) (sinZ y)) qu from hu)
  have rg := run_arith (P := Try.prog) 37 hg
  have HS := Lib.hid HF.out.s
  obtain ⟨qr, hr, -⟩ := HF.out.r
  have rr := run_arith (P := Try.prog) 37 (show Rv .f64 (fa .mul .f64 (sinZ y) (pAt (sinU y) 8)) qr from hr)
  have HR : Hid (sineW y = fa .mul .f64 (sinZ y) (pAt (sinU y) 8)) := rfl
  have hU : fa .mul .f64 (sinZ y) (sinZ y) = sinU y := rfl
  rw [hU] at ru
  have h14 : fgt .f64 (fa .sub .f64 y 0) QW = (FloatKind.f64.format.order (fa .sub .f64 y 0) QW == some .gt) := rfl
  rw [h14] at hz hsz
  clear h h0 h1 h14 f1 f2 f3 hu hr hg hU
  unfold QW HW TW at *
  generalize fa .sub .f64 y 0 = F at *
  generalize sinU y = U at *
  cases hc : (FloatKind.f64.format.order F 4598175219545276416 == some .gt)
  all_goals
    rw [hc] at hz hsz
    simp only [Bool.false_eq_true, if_false, if_true] at hz hsz
    have rz := run_arith (P := Try.prog) 37 hz
    rw [← hsz] at rz
    clear hz hsz
    generalize sinZ y = Z at *
    go_enter Try.func101, Try.ntmps101
    go_wp2_with fail
    refine (HP.out _).mono ?_
    rintro e w' ⟨rfl, n, rfl⟩
    go_wp2_with fail
    have h8 : (4620693217682128896 : Nat) = kW 0 := by decide +kernel
    go_loopw [7, 8] (fun p k wr => ∃ j : Nat, j ≤ 8 ∧ p = .float .f64 (pAt U j) ∧ k = .float .f64 (kW j) ∧ wr = w.drewN n) (fun _ k _ => bitsOfV k)
    case atStart => exact ⟨0, by omega, rfl, by rw [h8], rfl⟩
    case round =>
      obtain ⟨j, hj, rfl, rfl, rfl⟩ := hrel
      by_cases hlt : j < 8
      · obtain ⟨a1, a2, a3, a4, a5, a6⟩ := kW_all ⟨j, by omega⟩ hlt
        simp only [] at a1 a2 a3 a4 a5 a6
        obtain ⟨⟨_, b1⟩, ⟨_, b2⟩, ⟨_, b3, -⟩⟩ := HS.out j hlt
        have r1 := run_arith (P := Try.prog) 37 b1
        have r2 := run_arith (P := Try.prog) 37 b2
        have r3 := run_arith (P := Try.prog) 37 b3
        have r4 := run_fin (P := Try.prog) 37 a3
        have r5 := run_fin (P := Try.prog) 37 a4
        have r6 := run_fin (P := Try.prog) (k := .f64) (op := .mul) 37 (by rw [a1]; exact a5)
        have r7 := run_fin (P := Try.prog) (k := .f64) (op := .sub) 37 (by rw [a2]; exact a6)
        rw [a1] at r6
        rw [a2] at r7
        have hless := kW_less' hlt
        have hge := kW_ge' hj
        have hP : fa .sub .f64 4607182418800017408 (fa .quo .f64 (fa .mul .f64 U (pAt U j)) (den j)) = pAt U (j + 1) := rfl
        rw [show OW = 4607182418800017408 from rfl, hP] at r3
        have HLT : Hid (j + 1 ≤ 8) := by show _ ≤ _; omega
        clear a1 a2 a3 a4 a5 a6 b1 b2 b3 hP h8 hj
        generalize fa .mul .f64 U (pAt U j) = M1 at *
        generalize fa .quo .f64 M1 (den j) = M2 at *
        generalize fa .mul .f64 4611686018427387904 (kW j) = M3 at *
        generalize fa .add .f64 M3 4607182418800017408 = M4 at *
        generalize hp2 : pAt U (j + 1) = P2 at *
        generalize hk2 : kW (j + 1) = K2 at *
        have HP2 := Lib.hid hp2
        have HK2 := Lib.hid hk2
        clear hp2 hk2
        generalize den j = D at *
        have HLS := Lib.hid hless
        clear hless
        by_cases h7 : j < 7
        · rw [if_pos h7] at hge
          clear h7 hlt
          generalize pAt U j = P1 at *
          generalize kW j = K1 at *
          go_wp2_with fail
          go_roundw
          case rel => exact ⟨j + 1, HLT.out, by rw [HP2.out], by rw [HK2.out], trivial⟩
          case measure => exact HLS.out
        · rw [if_neg h7, if_pos (by omega)] at hge
          clear h7 hlt
          generalize pAt U j = P1 at *
          generalize kW j = K1 at *
          go_wp2_with fail
          go_roundw
          case rel => exact ⟨j + 1, HLT.out, by rw [HP2.out], by rw [HK2.out], trivial⟩
          case measure => exact HLS.out
      · obtain rfl : j = 8 := by omega
        have hge := kW_ge' (Nat.le_refl 8)
        rw [if_neg (by decide), if_neg (by decide)] at hge
        generalize kW 8 = K1 at *
        generalize pAt U 8 = P1 at *
        clear hj hlt
        go_wp2
        go_ret
        exact ⟨by rw [HR.out]; rfl, _, rfl⟩
theorem dens (k : Int) (h : 1 ≤ k ∧ k ≤ 8) : IntKind.i64.wrap (2 * k) = 2 * k ∧ IntKind.i64.wrap (2 * k + 1) = 2 * k + 1 ∧ IntKind.i64.wrap (2 * k * (2 * k + 1)) = 2 * k * (2 * k + 1) ∧ IntKind.i64.wrap (k - 1) = k - 1 := by
  have hc : k = 1 ∨ k = 2 ∨ k = 3 ∨ k = 4 ∨ k = 5 ∨ k = 6 ∨ k = 7 ∨ k = 8 := by omega
  rcases hc with rfl | rfl | rfl | rfl | rfl | rfl | rfl | rfl <;> decide
theorem conv64U (q : Nat) (n : Int) (h : floatToIntVal .f64 q .i64 = some n) (w : World) : (convert 37 2 (.float .f64 q)).run Try.prog w = .ok (.int .i64 n) w :=
  run_convert_float_int (P := Try.prog) w 37 2 .f64 .i64 q n (by kernel_rfl) Try.underlying2 h
set_option maxHeartbeats 1000000 in
theorem s_l01SineWide (y : Nat) {q : Rat} (h : Rv .f64 y q) (h0 : 0 ≤ q) (h1 : q ≤ 26 / 100) (w : World) : Calls Try.prog 113 #[.float .f64 y] w fun e w' => e = .returned (.float .f64 (sineW y)) ∧ ∃ n, w' = w.drewN n := by
  have HF := Lib.hid (sinF h h0 h1)
  obtain ⟨v, f1, f2, f3⟩ := HF.out.f
  have ho := order_lt f1 hw_rv (by grind)
  have hn := not_lt f1 (rv_zero .f64) f2
  have rt' := conv64U y 0 (to_int_zero h (by grind) (by grind))
  have rf := run_arith (P := Try.prog) 37 f1
  have hb1 := order_lt h huge_rv (by grind)
  have hb2 := order_gt h nhuge_rv (by grind)
  have hyy : Rv .f64 (fa .sub .f64 y y) 0 := by
    obtain ⟨r, r1, r2⟩ := sub_w h h (show Wi (q - q) 1 by unfold Wi; grind) (by decide +kernel)
    rw [show q - q = 0 by grind] at r2
    have := r2.ex (rep_rv (rv_zero .f64))
    rwa [this] at r1
  have rs := run_arith (P := Try.prog) 37 hyy
  have hs0 := order_eq hyy (rv_zero .f64) rfl
  have hsz : sinZ y = fa .mul .f64 (fold4 (fa .sub .f64 y 0)) TW := rfl
  obtain ⟨qz, hz⟩ := HF.out.z
  obtain ⟨qu, hu⟩ := HF.out.u
  obtain ⟨qg, hg⟩ := HF.out.g
  rw [hsz] at hz
  unfold fold4 at hz hsz
  have ru := run_arith (P := Try.prog) 37 (show Rv .f64 (fa .mul .f64 (sinZ y) (sinZ y)) qu from hu)
  have rg := run_arith (P := Try.prog) 37 hg
  have HS := Lib.hid HF.out.s
  obtain ⟨qr, hr, -⟩ := HF.out.r
  have rr := run_arith (P := Try.prog) 37 (show Rv .f64 (fa .mul .f64 (sinZ y) (pAt (sinU y) 8)) qr from hr)
  have HR : Hid (sineW y = fa .mul .f64 (sinZ y) (pAt (sinU y) 8)) := rfl
  have hU : fa .mul .f64 (sinZ y) (sinZ y) = sinU y := rfl
  rw [hU] at ru
  have h14 : fgt .f64 (fa .sub .f64 y 0) QW = (FloatKind.f64.format.order (fa .sub .f64 y 0) QW == some .gt) := rfl
  rw [h14] at hz hsz
  clear h h0 h1 h14 f1 f2 f3 hu hr hg hU hyy
  unfold QW HW TW at *
  generalize fa .sub .f64 y y = S0 at *
  generalize fa .sub .f64 y 0 = F at *
  generalize sinU y = U at *
  cases hc : (FloatKind.f64.format.order F 4598175219545276416 == some .gt)
  all_goals
    rw [hc] at hz hsz
    simp only [Bool.false_eq_true, if_false, if_true] at hz hsz
    have rz := run_arith (P := Try.prog) 37 hz
    rw [← hsz] at rz
    clear hz hsz
    generalize sinZ y = Z at *
    have h00 : floatOfInt .f64 0 = 0 := by decide
    go_enter Try.func113, Try.ntmps113
    go_wp2_with fail
    go_loopw [7, 8] (fun p k wr => ∃ j n : Nat, j ≤ 8 ∧ p = .float .f64 (pAt U j) ∧ k = .int .i64 (kOf j) ∧ wr = w.drewN n) (fun _ k _ => (intOf k).toNat)
    case atStart => exact ⟨0, 0, by omega, rfl, rfl, rfl⟩
    case round =>
      obtain ⟨j, n, hj, rfl, rfl, rfl⟩ := hrel
      by_cases hlt : j < 8
      · obtain ⟨⟨_, b1⟩, ⟨_, b2⟩, ⟨_, b3, -⟩⟩ := HS.out j hlt
        have r1 := run_arith (P := Try.prog) 37 b1
        have r2 := run_arith (P := Try.prog) 37 b2
        have r3 := run_arith (P := Try.prog) 37 b3
        have hP : fa .sub .f64 4607182418800017408 (fa .quo .f64 (fa .mul .f64 U (pAt U j)) (den j)) = pAt U (j + 1) := rfl
        rw [show OW = 4607182418800017408 from rfl, hP] at r3
        have HLT : Hid (j + 1 ≤ 8) := by show _ ≤ _; omega
        have hk : kOf (j + 1) = kOf j - 1 := by unfold kOf; omega
        have hk1 : 1 ≤ kOf j ∧ kOf j ≤ 8 := by unfold kOf; omega
        have hD : den j = floatOfInt .f64 (2 * kOf j * (2 * kOf j + 1)) := rfl
        have hd2 := dens (kOf j) hk1
        clear b1 b2 b3 hP hj
        generalize fa .mul .f64 U (pAt U j) = M1 at *
        generalize fa .quo .f64 M1 (den j) = M2 at *
        generalize hp2 : pAt U (j + 1) = P2 at *
        have HP2 := Lib.hid hp2
        clear hp2
        rw [hD] at r2
        have HK2 := Lib.hid hk
        clear hk hD hlt
        generalize pAt U j = P1 at *
        generalize kOf j = K1 at *
        obtain ⟨g1, g2⟩ := hk1
        obtain ⟨d1, d2, d3, d4⟩ := hd2
        have HG := Lib.hid (And.intro g1 g2)
        generalize hDD : floatOfInt .f64 (2 * K1 * (2 * K1 + 1)) = D at *
        go_wp2_with fail
        go_roundw
        case rel => exact ⟨j + 1, _, HLT.out, by rw [HP2.out], by rw [HK2.out]; try go_num, rfl⟩
        case measure => have := HG.out; simp [intOf]; omega
      · obtain rfl : j = 8 := by omega
        have hk : kOf 8 = 0 := rfl
        rw [hk]
        generalize pAt U 8 = P1 at *
        clear hj hlt hk
        go_wp2
        go_ret
        exact ⟨by rw [HR.out]; rfl, _, rfl⟩
theorem fge_split {k : FloatKind} {x y : Nat} (h : fge k x y = true) (hn : isNan k x = false) : k.format.order x y = some .gt ∨ k.format.order x y = some .eq := by
  unfold fge at h
  cases ho : k.format.order x y with
  | none => rw [ho] at h; cases h
  | some o => rw [ho] at h; cases o <;> simp_all
theorem fge_no {k : FloatKind} {x y : Nat} {a b : Rat} (hx : Rv k x a) (hy : Rv k y b) (h : fge k x y = false) : k.format.order x y = some .lt := by
  rw [fge_q hx hy] at h
  exact order_lt hx hy (Rat.not_le.1 (of_decide_eq_false h))
theorem wi_two {q b : Rat} (h : Wi q b) (hb : b ≤ 1000) : q < Go.Fl.two 127 ∧ -q < Go.Fl.two 127 := by
  have := n127_big
  unfold Wi at h; grind
/-- What a walk over a point's program asks. -/
structure PhW (P : Program) (t : Nat) : Prop where
  y : ∃ v, Rv .f64 (fa .sub .f64 QW (turnG t)) v ∧ 0 ≤ v ∧ v ≤ 26 / 100
  g : ∃ v, Rv .f64 (turnG t) v ∧ 0 ≤ v ∧ v ≤ 26 / 100
  q : QnF (turnF t) (turnK t)
  c : ∃ v, Rv .f64 (cosT t) v ∧ Wi v 5
  s : ∃ v, Rv .f64 (sinT t) v ∧ Wi v 5
  nc : ∃ v, Rv .f64 (fa .sub .f64 0 (cosT t)) v ∧ Wi v 5
  ns : ∃ v, Rv .f64 (fa .sub .f64 0 (sinT t)) v ∧ Wi v 5
theorem phW_of (P : Program) {t : Nat} {q : Rat} (h : Rv .f64 t q) (h0 : 0 ≤ q) (h1 : q ≤ 1) : PhW P t := by
  have hp := phF h h0 h1
  obtain ⟨v, v1, v2, v3⟩ := hp.q.rv (turnK t) (Nat.le_refl _)
  have hn := hp.q.no
  rw [fge_q v1 qw_rv] at hn
  have hn' : v < 1 / 4 := Rat.not_le.1 (of_decide_eq_false hn)
  have e64 := ep64
  have t64 := et64
  have hyw : Wi (1 / 4 - v) (1 / 4) := by unfold Wi; grind
  obtain ⟨Y, y1, y2⟩ := sub_w qw_rv v1 hyw (by decide +kernel)
  have y3 := y2.wi hyw
  have y4 := y2.pos (by grind)
  obtain ⟨c, c1, c2⟩ := hp.c.r
  obtain ⟨s, s1, s2⟩ := hp.s.r
  exact ⟨⟨Y, y1, y4, by unfold Wi at y3; rw [e64] at y3; grind⟩, ⟨v, v1, v2, by grind⟩, hp.q, ⟨c, c1, c2.mono (by grind)⟩, ⟨s, s1, s2.mono (by grind)⟩, hp.nc, hp.ns⟩
theorem f_NaN (w : World) : Calls Try.prog 98 #[] w fun e w' => e = .returned (.float .f64 9221120237041090561) ∧ ∃ n, w' = w.drewN n := by
  have r0 : ∀ w : World, (callFunc 109 #[.int .u64 9221120237041090561]).run Try.prog w = .ok (.value (.float .f64 9221120237041090561)) w := run_from64U 9221120237041090561
  go_enter Try.func98, Try.ntmps98
  go_wp2
  go_ret
  exact ⟨rfl, 0, rfl⟩
def idxOfV : Value → Nat := fun v => match v with | .int _ n => n.toNat | _ => 0
set_option maxHeartbeats 4000000 in
theorem i_PhasorOf (t : Nat) {q : Rat} (ht : t < 2 ^ 64) (h : Rv .f64 t q) (h0 : 0 ≤ q) (h1 : q < 1) (w : World) : Calls Try.prog 75 #[.float .f64 t] w fun e w' => e = .returned (.complex .f32 (phRe t) (phIm t)) ∧ ∃ n, w' = w.drewN n := by
  have HPH := Lib.hid (phW_of Try.prog h h0 (by grind))
  have HU := Lib.hid (fun W => i_isHuge t ht h (by unfold Wi; grind) W)
  have HP := Lib.hid (fun W => i_partOfTurn t h h0 h1 W)
  have htt : Rv .f64 (fa .sub .f64 t t) 0 := by
    obtain ⟨r, r1, r2⟩ := sub_w h h (show Wi (q - q) 1 by unfold Wi; grind) (by decide +kernel)
    rw [show q - q = 0 by grind] at r2
    have := r2.ex (rep_rv (rv_zero .f64))
    rwa [this] at r1
  have rs := run_arith (P := Try.prog) 37 htt
  have hs0 := order_eq htt (rv_zero .f64) rfl
  obtain ⟨y, HN, HNF⟩ : ∃ y, Hid (cn .f64 9221120237041090561 = y) ∧ Hid (fits y) := ⟨_, rfl, fun s m e h' => by
    have h2 := isNumber_notNan h'
    rw [isNan_cn] at h2
    exact absurd h2 (by decide +kernel)⟩
  clear ht h h0 h1 htt
  generalize fa .sub .f64 t t = S0 at *
  go_enter Try.func75, Try.ntmps75
  go_wp2_with (first | (go_at_call 98; refine (f_NaN _).mono ?_; rintro e w' ⟨rfl, n, rfl⟩) | (refine wpList_narrow (dst := 26) rfl rfl rfl (by kernel_rfl) Try.underlying26 HN HNF ?_; intro r' n'' hr'))
  refine (HU.out _).mono ?_
  rintro e w1 ⟨rfl, n1, rfl⟩
  go_wp2_with fail
  refine (HP.out _).mono ?_
  rintro e w2 ⟨rfl, n2, rfl⟩
  have HF0 : Hid (fq (turnF t) 0 = fa .sub .f64 t 0) := rfl
  rw [← HF0.out]
  have HQ := Lib.hid HPH.out.q
  have HG0 : Hid (fq (turnF t) (turnK t) = turnG t) := rfl
  have HQW : Hid (QW = 4598175219545276416) := rfl
  generalize hF : turnF t = F at *
  clear HF0 hF HU HP HN HNF hr' rs hs0
  go_wp2_with fail
  go_loopw [4, 5] (fun f k wr => ∃ j : Nat, j ≤ turnK t ∧ f = .float .f64 (fq F j) ∧ k = .int .i64 (j : Int) ∧ Hid (∃ n, wr = w.drewN n)) (fun _ k _ => turnK t - (intOf k).toNat)
  case atStart => exact ⟨0, Nat.zero_le _, rfl, rfl, _, rfl⟩
  case round =>
    obtain ⟨j, hj, rfl, rfl, hD⟩ := hrel
    have hK4 := HQ.out.le
    by_cases hlt : j < turnK t
    · obtain ⟨v, v1, -⟩ := HQ.out.rv (j + 1) hlt
      obtain ⟨v0, v2, -⟩ := HQ.out.rv j hj
      have r1 := run_arith (P := Try.prog) 37 (show Rv .f64 (fa .sub .f64 (fq F j) QW) v from v1)
      have hF2 : fa .sub .f64 (fq F j) QW = fq F (j + 1) := rfl
      rw [hF2, HQW.out] at r1
      have hg := HQ.out.lt j hlt
      rw [HQW.out] at hg
      have HLT : Hid (j + 1 ≤ turnK t) := hlt
      have hj4 : j < 5 := by omega
      have hs := fge_split hg v2.notNan
      clear hF2 hg v1 v2 hj hK4 hlt
      generalize hf2 : fq F (j + 1) = F2 at *
      have HF2 := Lib.hid hf2
      clear hf2
      generalize fq F j = F1 at *
      rcases hs with hs | hs
      all_goals
        go_wp2_with fail
        go_roundw
        case rel => exact ⟨j + 1, HLT.out, by rw [HF2.out], by go_num, hD.out⟩
        case measure => have := HLT.out; simp [intOf]; omega
    · obtain rfl : j = turnK t := by omega
      obtain ⟨v0, v2, -⟩ := HQ.out.rv (turnK t) hj
      have ho := fge_no v2 qw_rv HQ.out.no
      have hgg : fq F (turnK t) = turnG t := HG0.out
      rw [hgg] at ho ⊢
      rw [HQW.out] at ho
      obtain ⟨vy, y1, y2, y3⟩ := HPH.out.y
      obtain ⟨vg, g1, g2, g3⟩ := HPH.out.g
      have HS1 := Lib.hid (fun W => i_sine _ y1 y2 y3 W)
      have HS2 := Lib.hid (fun W => i_sine _ g1 g2 g3 W)
      have ry := run_arith (P := Try.prog) 37 y1
      rw [HQW.out] at ry HS1
      obtain ⟨c, c1, c2⟩ := HPH.out.c
      obtain ⟨s, s1, s2⟩ := HPH.out.s
      obtain ⟨nc, nc1, nc2⟩ := HPH.out.nc
      obtain ⟨ns, ns1, ns2⟩ := HPH.out.ns
      have rnc := run_arith (P := Try.prog) 37 nc1
      have rns := run_arith (P := Try.prog) 37 ns1
      have n1 := run_narr (P := Try.prog) (src := 37) (dst := 26) (by kernel_rfl) Try.underlying26 c1 (wi_two c2 (by decide +kernel)).1 (wi_two c2 (by decide +kernel)).2
      have n2 := run_narr (P := Try.prog) (src := 37) (dst := 26) (by kernel_rfl) Try.underlying26 s1 (wi_two s2 (by decide +kernel)).1 (wi_two s2 (by decide +kernel)).2
      have n3 := run_narr (P := Try.prog) (src := 37) (dst := 26) (by kernel_rfl) Try.underlying26 nc1 (wi_two nc2 (by decide +kernel)).1 (wi_two nc2 (by decide +kernel)).2
      have n4 := run_narr (P := Try.prog) (src := 37) (dst := 26) (by kernel_rfl) Try.underlying26 ns1 (wi_two ns2 (by decide +kernel)).1 (wi_two ns2 (by decide +kernel)).2
      have HRE : Hid (phRe t = narrow (reK t (turnK t))) := rfl
      have HIM : Hid (phIm t = narrow (imK t (turnK t))) := rfl
      unfold reK at HRE
      unfold imK at HIM
      have hcs : sineW (fa .sub .f64 4598175219545276416 (turnG t)) = cosT t := rfl
      have hss : sineW (turnG t) = sinT t := rfl
      rw [hcs] at HS1
      rw [hss] at HS2
      clear hj hlt hgg v2 y1 y2 y3 g1 g2 g3 c1 s1 nc1 ns1 c2 s2 nc2 ns2 hcs hss
      generalize fa .sub .f64 0 (cosT t) = NC at *
      generalize fa .sub .f64 0 (sinT t) = NS at *
      generalize cosT t = C at *
      generalize sinT t = S at *
      generalize fa .sub .f64 4598175219545276416 (turnG t) = Y at *
      generalize turnG t = G at *
      generalize turnK t = K at *
      have hc : K = 0 ∨ K = 1 ∨ K = 2 ∨ K = 3 ∨ K = 4 := by omega
      have HDD := hD
      rcases hc with rfl | rfl | rfl | rfl | rfl
      all_goals
        simp at HRE HIM
        go_wp2_with fail
        refine (HS1.out _).mono ?_
        rintro e' w5 ⟨rfl, n5, rfl⟩
        go_wp2_with fail
        refine (HS2.out _).mono ?_
        rintro e' w6 ⟨rfl, n6, rfl⟩
        go_wp2
        go_ret
        rw [HRE.out, HIM.out]
        obtain ⟨m, rfl⟩ := HDD.out
        exact ⟨rfl, m + _, by rw [World.drewN_drewN]⟩
theorem s_l01NarrowU (x : Nat) {q : Rat} (h : Rv .f64 x q) (hw : Wi q 5) (w : World) : Calls Try.prog 114 #[.float .f64 x] w fun e w' => e = .returned (.float .f32 (narrow x)) ∧ ∃ n, w' = w.drewN n := by
  have r1 := run_narr (P := Try.prog) (src := 37) (dst := 26) (by kernel_rfl) Try.underlying26 h (wi_two hw (by decide +kernel)).1 (wi_two hw (by decide +kernel)).2
  clear h hw
  generalize narrow x = r at *
  go_enter Try.func114, Try.ntmps114
  go_wp2
  go_ret
  exact ⟨rfl, 0, rfl⟩
set_option maxHeartbeats 4000000 in
theorem s_l01Phasor (t : Nat) {q : Rat} (h : Rv .f64 t q) (h0 : 0 ≤ q) (h1 : q < 1) (w : World) : Calls Try.prog 103 #[.float .f64 t] w fun e w' => e = .returned (.complex .f32 (phRe t) (phIm t)) ∧ ∃ n, w' = w.drewN n := by
  have HPH := Lib.hid (phW_of Try.prog h h0 (by grind))
  have hf := sub_zero_rv h (by unfold Wi; grind)
  have rf := run_arith (P := Try.prog) 37 hf
  have hn := not_lt hf (rv_zero .f64) h0
  have rtz := conv64U t 0 (to_int_zero h h1 (by grind))
  have hb1 := order_lt h huge_rv (by grind)
  have hb2 := order_gt h nhuge_rv (by grind)
  have h00 : floatOfInt .f64 0 = 0 := by decide
  have htt : Rv .f64 (fa .sub .f64 t t) 0 := by
    obtain ⟨r, r1, r2⟩ := sub_w h h (show Wi (q - q) 1 by unfold Wi; grind) (by decide +kernel)
    rw [show q - q = 0 by grind] at r2
    have := r2.ex (rep_rv (rv_zero .f64))
    rwa [this] at r1
  have rs := run_arith (P := Try.prog) 37 htt
  have hs0 := order_eq htt (rv_zero .f64) rfl
  clear h h0 h1 htt hf
  generalize fa .sub .f64 t t = S0 at *
  go_enter Try.func103, Try.ntmps103
  have HF0 : Hid (fq (turnF t) 0 = fa .sub .f64 t 0) := rfl
  rw [← HF0.out] at rf hn
  have HQ := Lib.hid HPH.out.q
  have HG0 : Hid (fq (turnF t) (turnK t) = turnG t) := rfl
  have HQW : Hid (QW = 4598175219545276416) := rfl
  generalize hF : turnF t = F at *
  clear HF0 hF
  go_wp2_with fail
  go_loopw [3, 4] (fun f k wr => ∃ j : Nat, j ≤ turnK t ∧ f = .float .f64 (fq F j) ∧ k = .int .i64 (j : Int) ∧ Hid (∃ n, wr = w.drewN n)) (fun _ k _ => turnK t - (intOf k).toNat)
  case atStart => exact ⟨0, Nat.zero_le _, rfl, rfl, 0, rfl⟩
  case round =>
    obtain ⟨j, hj, rfl, rfl, hD⟩ := hrel
    have hK4 := HQ.out.le
    by_cases hlt : j < turnK t
    · obtain ⟨v, v1, -⟩ := HQ.out.rv (j + 1) hlt
      obtain ⟨v0, v2, -⟩ := HQ.out.rv j hj
      have r1 := run_arith (P := Try.prog) 37 (show Rv .f64 (fa .sub .f64 (fq F j) QW) v from v1)
      have hF2 : fa .sub .f64 (fq F j) QW = fq F (j + 1) := rfl
      rw [hF2, HQW.out] at r1
      have hg := HQ.out.lt j hlt
      rw [HQW.out] at hg
      have HLT : Hid (j + 1 ≤ turnK t) := hlt
      have hj4 : j < 5 := by omega
      have hs := fge_split hg v2.notNan
      clear hF2 hg v1 v2 hj hK4 hlt
      generalize hf2 : fq F (j + 1) = F2 at *
      have HF2 := Lib.hid hf2
      clear hf2
      generalize fq F j = F1 at *
      rcases hs with hs | hs
      all_goals
        go_wp2_with fail
        go_roundw
        case rel => exact ⟨j + 1, HLT.out, by rw [HF2.out], by go_num, hD.out⟩
        case measure => have := HLT.out; simp [intOf]; omega
    · obtain rfl : j = turnK t := by omega
      obtain ⟨v0, v2, -⟩ := HQ.out.rv (turnK t) hj
      have ho := fge_no v2 qw_rv HQ.out.no
      have hgg : fq F (turnK t) = turnG t := HG0.out
      rw [hgg] at ho ⊢
      rw [HQW.out] at ho
      obtain ⟨vy, y1, y2, y3⟩ := HPH.out.y
      obtain ⟨vg, g1, g2, g3⟩ := HPH.out.g
      have HS1 := Lib.hid (fun W => s_l01SineWide _ y1 y2 y3 W)
      have HS2 := Lib.hid (fun W => s_l01SineWide _ g1 g2 g3 W)
      have ry := run_arith (P := Try.prog) 37 y1
      rw [HQW.out] at ry HS1
      obtain ⟨c, c1, c2⟩ := HPH.out.c
      obtain ⟨s, s1, s2⟩ := HPH.out.s
      obtain ⟨nc, nc1, nc2⟩ := HPH.out.nc
      obtain ⟨ns, ns1, ns2⟩ := HPH.out.ns
      have rnc := run_arith (P := Try.prog) 37 nc1
      have rns := run_arith (P := Try.prog) 37 ns1
      have N1 := Lib.hid (fun W => s_l01NarrowU (cosT t) c1 c2 W)
      have N2 := Lib.hid (fun W => s_l01NarrowU (sinT t) s1 s2 W)
      have N3 := Lib.hid (fun W => s_l01NarrowU (fa .sub .f64 0 (cosT t)) nc1 nc2 W)
      have N4 := Lib.hid (fun W => s_l01NarrowU (fa .sub .f64 0 (sinT t)) ns1 ns2 W)
      have HRE : Hid (phRe t = narrow (reK t (turnK t))) := rfl
      have HIM : Hid (phIm t = narrow (imK t (turnK t))) := rfl
      unfold reK at HRE
      unfold imK at HIM
      have hcs : sineW (fa .sub .f64 4598175219545276416 (turnG t)) = cosT t := rfl
      have hss : sineW (turnG t) = sinT t := rfl
      rw [hcs] at HS1
      rw [hss] at HS2
      clear hj hlt hgg v2 y1 y2 y3 g1 g2 g3 c1 s1 nc1 ns1 c2 s2 nc2 ns2 hcs hss
      generalize fa .sub .f64 0 (cosT t) = NC at *
      generalize fa .sub .f64 0 (sinT t) = NS at *
      generalize cosT t = C at *
      generalize sinT t = S at *
      generalize fa .sub .f64 4598175219545276416 (turnG t) = Y at *
      generalize turnG t = G at *
      generalize turnK t = K at *
      have hc : K = 0 ∨ K = 1 ∨ K = 2 ∨ K = 3 ∨ K = 4 := by omega
      have HDD := hD
      rcases hc with rfl | rfl | rfl | rfl | rfl
      all_goals
        simp at HRE HIM
        go_wp2_with fail
        refine (HS1.out _).mono ?_
        rintro e' w5 ⟨rfl, n5, rfl⟩
        go_wp2_with fail
        refine (HS2.out _).mono ?_
        rintro e' w6 ⟨rfl, n6, rfl⟩
        go_wp2_with (go_at_call 114; (first | (with_reducible refine (N1.out _).mono ?_) | (with_reducible refine (N2.out _).mono ?_) | (with_reducible refine (N3.out _).mono ?_) | (with_reducible refine (N4.out _).mono ?_)); rintro e' w7 ⟨rfl, n7, rfl⟩)
        trace_state
        go_ret
        rw [HRE.out, HIM.out]
        obtain ⟨m, rfl⟩ := HDD.out
        exact ⟨rfl, m + _, by rw [World.drewN_drewN]⟩
end Go.Proofs.Ytmpmnhnobgidoaa
