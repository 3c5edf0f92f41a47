/- Towers of a few numbers: runs, energies. -/
import Derived.Test.YtmpmnhnobgidoaaVV
import Derived.Test.YtmpmnhnobgidoaaH
namespace Go.Proofs.Ytmpmnhnobgidoaa
set_option linter.unusedSimpArgs false
set_option linter.unusedVariables false
open Go.RowKit Go.Fl Go.Lib

/-! Exact numbers with a power of two. -/
theorem dyx_lt {k : FloatKind} {n c : Int} (h : n.natAbs < 2 ^ (fb k + 1)) (hc : c ≤ 0) : Wi ((n : Rat) * Go.Fl.two c) 9007199254740992 := by
  have h1 : Wi (n : Rat) 9007199254740992 := Go.Fl.int_lt (k := k) h
  have h2 : Wi (Go.Fl.two c) 1 := by
    have := two_pos c
    have h3 := two_mono hc
    rw [show Go.Fl.two 0 = 1 from rfl] at h3
    unfold Wi; grind
  exact (h1.mul h2).mono (by decide +kernel)
theorem add_dyx {k : FloatKind} {x y : Nat} {a b c : Int} (hx : Rv k x ((a : Rat) * Go.Fl.two c)) (hy : Rv k y ((b : Rat) * Go.Fl.two c)) (h : (a + b).natAbs < 2 ^ (fb k + 1)) (hc : c ≤ 0) (hp : pl k ≤ c) : Rv k (fa .add k x y) (((a + b : Int) : Rat) * Go.Fl.two c) := by
  have e : (a : Rat) * Go.Fl.two c + (b : Rat) * Go.Fl.two c = ((a + b : Int) : Rat) * Go.Fl.two c := by rw [Rat.intCast_add, Rat.add_mul]
  obtain ⟨r, h1, h2⟩ := add_w hx hy (by rw [e]; exact dyx_lt h hc) (by decide +kernel)
  rw [e] at h2
  have := h2.ex ⟨a + b, c, rfl, h, hp⟩
  rw [this] at h1; exact h1
theorem mul_dyx {k : FloatKind} {x y : Nat} {a b c d : Int} (hx : Rv k x ((a : Rat) * Go.Fl.two c)) (hy : Rv k y ((b : Rat) * Go.Fl.two d)) (h : (a * b).natAbs < 2 ^ (fb k + 1)) (hc : c + d ≤ 0) (hp : pl k ≤ c + d) : Rv k (fa .mul k x y) (((a * b : Int) : Rat) * Go.Fl.two (c + d)) := by
  have e : (a : Rat) * Go.Fl.two c * ((b : Rat) * Go.Fl.two d) = ((a * b : Int) : Rat) * Go.Fl.two (c + d) := by rw [Rat.intCast_mul, two_add]; grind
  obtain ⟨r, h1, h2⟩ := mul_w hx hy (by rw [e]; exact dyx_lt h hc) (by decide +kernel)
  rw [e] at h2
  have := h2.ex ⟨a * b, c + d, rfl, h, hp⟩
  rw [this] at h1; exact h1
/-- A number in units of 2 to the power of -30. -/
def vU (x : Nat) : Int := match Ieee.single.read x with | .number s m e => if s then -((m * 2 ^ (e + 30).toNat : Nat) : Int) else ((m * 2 ^ (e + 30).toNat : Nat) : Int) | _ => 0
def okU (x : Nat) : Bool := match Ieee.single.read x with | .number _ m e => decide (m = 0 ∨ -30 ≤ e) | _ => false
theorem vU_rv {x : Nat} (h : okU x = true) : Rv .f32 x ((vU x : Rat) * Go.Fl.two (-30)) := by
  unfold okU at h
  cases hr : Ieee.single.read x with
  | number s m e =>
    rw [hr] at h
    have he : m = 0 ∨ -30 ≤ e := of_decide_eq_true h
    refine ⟨s, m, e, hr, ?_⟩
    have h1 : ((m * 2 ^ (e + 30).toNat : Nat) : Rat) * Go.Fl.two (-30) = (m : Rat) * Go.Fl.two e := by
      rcases he with rfl | he
      · simp
      · rw [Rat.natCast_mul, ← two_nat, Rat.mul_assoc, ← two_add]
        congr 2; omega
    unfold vU
    rw [hr]
    unfold dq sq
    cases s
    · simp only [Bool.false_eq_true, if_false]
      rw [Rat.intCast_natCast, h1]
    · simp only [if_true]
      rw [Rat.intCast_neg, Rat.intCast_natCast, Rat.neg_mul, h1]
  | infinity s => rw [hr] at h; cases h
  | nan s t => rw [hr] at h; cases h
/-- A place, or a speed, in halves. -/
def pW (x : Nat) : Nat := fa .quo .f32 (floatOfInt .f32 ((x : Int) - 4)) 1073741824
theorem pw_all : ∀ x : Fin 9, okU (pW x.val) = true ∧ vU (pW x.val) = ((x.val : Int) - 4) * 536870912 := by decide +kernel
theorem mw_all : ∀ i : Fin 16, okU (mW i.val) = true ∧ vU (mW i.val) = ((i.val : Int) + 1) * 268435456 ∧ okU (sW i.val) = true ∧ vU (sW i.val) = ((i.val : Int) + 1) * 536870912 := by decide +kernel
theorem qw_all : ∀ k : Fin 25, okU (fa .quo .f32 (floatOfInt .f32 ((k.val : Nat) : Int)) 1082130432) = true ∧ vU (fa .quo .f32 (floatOfInt .f32 ((k.val : Nat) : Int)) 1082130432) = (k.val : Int) * 268435456 := by decide +kernel
theorem u_half (n : Int) : ((n * 536870912 : Int) : Rat) * Go.Fl.two (-30) = (n : Rat) * Go.Fl.two (-1) := by
  rw [Rat.intCast_mul, Rat.mul_assoc]
  congr 1
  decide +kernel
theorem u_quart (n : Int) : ((n * 268435456 : Int) : Rat) * Go.Fl.two (-30) = (n : Rat) * Go.Fl.two (-2) := by
  rw [Rat.intCast_mul, Rat.mul_assoc]
  congr 1
  decide +kernel
theorem pw_rv {x : Nat} (h : x < 9) : Rv .f32 (pW x) ((((x : Int) - 4 : Int) : Rat) * Go.Fl.two (-1)) := by
  have := pw_all ⟨x, h⟩
  have h2 := vU_rv this.1
  rw [this.2, u_half] at h2
  exact h2
theorem mw_rv {i : Nat} (h : i < 16) : Rv .f32 (mW i) ((((i : Int) + 1 : Int) : Rat) * Go.Fl.two (-2)) ∧ Rv .f32 (sW i) ((((i : Int) + 1 : Int) : Rat) * Go.Fl.two (-1)) := by
  obtain ⟨h1, h2, h3, h4⟩ := mw_all ⟨i, h⟩
  have g1 := vU_rv h1
  have g2 := vU_rv h3
  rw [h2, u_quart] at g1
  rw [h4, u_half] at g2
  exact ⟨g1, g2⟩
theorem two_1 : Go.Fl.two (-1) = 1 / 2 := by decide +kernel
theorem two_2 : Go.Fl.two (-2) = 1 / 4 := by decide +kernel
theorem int_wi {n : Int} {b : Nat} (h : n.natAbs ≤ b) : Wi (n : Rat) (b : Rat) := natAbs_wi n b h
theorem eighth_rv : Rv .f32 1040187392 (1 / 8) := ⟨false, 8388608, -26, by decide +kernel, by decide +kernel⟩
theorem half_rv : Rv .f32 1056964608 (1 / 2) := ⟨false, 8388608, -24, by decide +kernel, by decide +kernel⟩
/-- A step grows little. -/
theorem step_wi {m d s p v f : Nat} {M D S P V F B : Rat} (hm : Rv .f32 m M) (hd : Rv .f32 d D) (hs : Rv .f32 s S) (hp : Rv .f32 p P) (hv : Rv .f32 v V) (hf : Rv .f32 f F)
    (m1 : 1 / 4 ≤ M) (d1 : Wi D 1) (s1 : Wi S 8) (p1 : Wi P B) (v1 : Wi V B) (f1 : Wi F B) (b1 : 1 ≤ B) (b2 : B ≤ 100000000) :
    ∃ P' V', Rv .f32 (stepP m d s p v f 1040187392) P' ∧ Rv .f32 (stepV m d s p v f 1040187392) V' ∧ Wi P' (10 * B) ∧ Wi V' (10 * B) := by
  have e32 := ep32
  have t32 := et32
  have grow : ∀ {q r b : Rat}, Near .f32 q r → Wi q b → 1 / 100 ≤ b → Wi r (b * (1001 / 1000)) := fun {q r b} h hb h0 => by
    have h1 := h.wi hb
    have e : r = q + (r - q) := by grind
    rw [e]
    exact (hb.add h1).mono (by rw [e32]; grind)
  have dv := d1.mul v1
  obtain ⟨r1, a1, n1⟩ := mul_w hd hv dv (by grind)
  have w1 := grow n1 dv (by grind)
  have fw := f1.sub w1
  obtain ⟨r2, a2, n2⟩ := sub_w hf a1 fw (by grind)
  have w2 := grow n2 fw (by grind)
  have sp := s1.mul p1
  obtain ⟨r3, a3, n3⟩ := mul_w hs hp sp (by grind)
  have w3 := grow n3 sp (by grind)
  have pw := w2.sub w3
  obtain ⟨r4, a4, n4⟩ := sub_w a2 a3 pw (by grind)
  have w4 := grow n4 pw (by grind)
  have w4' : Wi r4 (11 * B) := w4.mono (by grind)
  have hm0 : M ≠ 0 := by grind
  have hq : r4 / M * M = r4 := Rat.div_mul_cancel hm0
  have qw : Wi (r4 / M) (44 * B) := by
    unfold Wi at w4' ⊢
    have hMB : 44 * B * (1 / 4) ≤ 44 * B * M := Rat.mul_le_mul_of_nonneg_left m1 (by grind)
    constructor
    · apply Rat.le_of_mul_le_mul_right _ (show (0 : Rat) < M by grind)
      rw [hq]; grind
    · apply Rat.le_of_mul_le_mul_right _ (show (0 : Rat) < M by grind)
      rw [hq]; grind
  obtain ⟨r5, a5, n5⟩ := quo_w a4 hm hm0 hq qw (by grind)
  have w5 : Wi r5 (45 * B) := by
    have h1 := n5.wi qw
    have e : r5 = r4 / M + (r5 - r4 / M) := by grind
    rw [e]
    exact (qw.add h1).mono (by rw [e32]; grind)
  have t1 : Wi (1 / 8 : Rat) (1 / 8) := Wi.self (by decide +kernel)
  have tw := t1.mul w5
  obtain ⟨r6, a6, n6⟩ := mul_w eighth_rv a5 tw (by grind)
  have w6 := grow n6 tw (by grind)
  have vw := v1.add w6
  obtain ⟨r7, a7, n7⟩ := add_w hv a6 vw (by grind)
  have w7 := grow n7 vw (by grind)
  have tv := t1.mul w7
  obtain ⟨r8, a8, n8⟩ := mul_w eighth_rv a7 tv (by grind)
  have w8 := grow n8 tv (by grind)
  have pp := p1.add w8
  obtain ⟨r9, a9, n9⟩ := add_w hp a8 pp (by grind)
  have w9 := grow n9 pp (by grind)
  exact ⟨r9, r7, a9, a7, w9.mono (by grind), w7.mono (by grind)⟩
/-- A run stays finite. -/
theorem run_wi {m d s p v : Nat} {fs : List Nat} {M D S P V : Rat} (hm : Rv .f32 m M) (hd : Rv .f32 d D) (hs : Rv .f32 s S) (hp : Rv .f32 p P) (hv : Rv .f32 v V)
    (m1 : 1 / 4 ≤ M) (d1 : Wi D 1) (s1 : Wi S 8) (p1 : Wi P 6) (v1 : Wi V 6) (hf : ∀ k, ∃ F, Rv .f32 (fs.getD k 0) F ∧ Wi F 6) :
    ∀ k, k ≤ 6 → ∃ P' V' : Rat, Rv .f32 (runAt m d s 1040187392 p v fs k).1 P' ∧ Rv .f32 (runAt m d s 1040187392 p v fs k).2 V' ∧ Wi P' (6 * 10 ^ k) ∧ Wi V' (6 * 10 ^ k) ∧ (1 : Rat) ≤ 10 ^ k
  | 0, _ => ⟨P, V, hp, hv, by simpa using p1, by simpa using v1, by decide +kernel⟩
  | k + 1, hk => by
    obtain ⟨P1, V1, a1, a2, a3, a4, a5⟩ := run_wi hm hd hs hp hv m1 d1 s1 p1 v1 hf k (by omega)
    obtain ⟨F, f1, f2⟩ := hf k
    have hb : (10 : Rat) ^ k ≤ 10 ^ 6 := by
      have hc : k = 0 ∨ k = 1 ∨ k = 2 ∨ k = 3 ∨ k = 4 ∨ k = 5 := by omega
      rcases hc with rfl | rfl | rfl | rfl | rfl | rfl <;> decide +kernel
    rw [show (10 : Rat) ^ 6 = 1000000 by decide +kernel] at hb
    obtain ⟨P2, V2, b1, b2, b3, b4⟩ := step_wi hm hd hs a1 a2 f1 m1 d1 s1 a3 a4 (f2.mono (by grind)) (by grind) (by grind)
    refine ⟨P2, V2, b1, b2, ?_, ?_, ?_⟩
    · rw [Rat.pow_succ]; exact b3.mono (by grind)
    · rw [Rat.pow_succ]; exact b4.mono (by grind)
    · rw [Rat.pow_succ]; grind
theorem near_nil {k : FloatKind} {r : Rat} (h : Near k 0 r) : r = 0 := by
  have h1 := h.pos (by grind)
  have h2 := h.neg (by grind)
  grind
theorem near2_nil {k : FloatKind} {r : Rat} (h : Near2 k 0 r) : r = 0 := by
  have h1 := h.pos (by grind)
  have h2 := h.neg (by grind)
  grind
/-- A tower at rest stays where it is. -/
theorem rest_rv {m d s : Nat} {M D S : Rat} (hm : Rv .f32 m M) (hd : Rv .f32 d D) (hs : Rv .f32 s S) (m1 : 1 / 4 ≤ M) : Rv .f32 (stepP m d s 0 0 0 1056964608) 0 ∧ Rv .f32 (stepV m d s 0 0 0 1056964608) 0 := by
  have z := rv_zero .f32
  have zw : Wi (0 : Rat) 1 := by unfold Wi; grind
  have mulz : ∀ {x y : Nat} {X : Rat}, Rv .f32 x X → Rv .f32 y 0 → Rv .f32 (fa .mul .f32 x y) 0 := fun {x y X} hx hy => by
    obtain ⟨r, h1, h2⟩ := mul_w hx hy (c := 1) (by rw [Rat.mul_zero]; exact zw) (by decide +kernel)
    rw [Rat.mul_zero] at h2
    rwa [near_nil h2] at h1
  have subz : ∀ {x y : Nat}, Rv .f32 x 0 → Rv .f32 y 0 → Rv .f32 (fa .sub .f32 x y) 0 := fun {x y} hx hy => by
    obtain ⟨r, h1, h2⟩ := sub_w hx hy (c := 1) (by rw [show (0 : Rat) - 0 = 0 by grind]; exact zw) (by decide +kernel)
    rw [show (0 : Rat) - 0 = 0 by grind] at h2
    rwa [near_nil h2] at h1
  have addz : ∀ {x y : Nat}, Rv .f32 x 0 → Rv .f32 y 0 → Rv .f32 (fa .add .f32 x y) 0 := fun {x y} hx hy => by
    obtain ⟨r, h1, h2⟩ := add_w hx hy (c := 1) (by rw [show (0 : Rat) + 0 = 0 by grind]; exact zw) (by decide +kernel)
    rw [show (0 : Rat) + 0 = 0 by grind] at h2
    rwa [near_nil h2] at h1
  have pull := subz (subz z (mulz hd z)) (mulz hs z)
  have quo : Rv .f32 (fa .quo .f32 (fa .sub .f32 (fa .sub .f32 0 (fa .mul .f32 d 0)) (fa .mul .f32 s 0)) m) 0 := by
    obtain ⟨r, h1, h2⟩ := quo_w (q := 0) pull hm (by grind) (by grind) zw (by decide +kernel)
    rwa [near2_nil h2] at h1
  have hv : Rv .f32 (stepV m d s 0 0 0 1056964608) 0 := addz z (mulz half_rv quo)
  exact ⟨addz z (mulz half_rv hv), hv⟩
/-! The energy: all exact. -/
def half64 : Nat := 4602678819172646912
theorem half64_rv : Rv .f64 half64 (1 / 2) := ⟨false, 4503599627370496, -53, by decide +kernel, by decide +kernel⟩
theorem half_dy (k : FloatKind) : (1 / 2 : Rat) = ((1 : Int) : Rat) * Go.Fl.two (-1) := by decide +kernel
theorem fb_le (k : FloatKind) : 2 ^ 24 ≤ 2 ^ (fb k + 1) := by cases k <;> decide
theorem pl_le (k : FloatKind) : pl k ≤ -149 := by cases k <;> decide
/-- Half of a number times the square of another one. -/
theorem part_rv {k : FloatKind} {h m v : Nat} {M V : Int} {c : Int} (hh : Rv k h (((1 : Int) : Rat) * Go.Fl.two (-1))) (hm : Rv k m ((M : Rat) * Go.Fl.two c)) (hv : Rv k v ((V : Rat) * Go.Fl.two (-1))) (hM : M.natAbs ≤ 16) (hV : V.natAbs ≤ 4) (hc : c = -2 ∨ c = -1) :
    Rv k (fa .mul k h m) ((M : Rat) * Go.Fl.two (-1 + c)) ∧ Rv k (fa .mul k (fa .mul k h m) v) (((M * V : Int) : Rat) * Go.Fl.two (-1 + c + -1)) ∧ Rv k (fa .mul k (fa .mul k (fa .mul k h m) v) v) (((M * V * V : Int) : Rat) * Go.Fl.two (-1 + c + -1 + -1)) ∧ (M * V * V).natAbs ≤ 256 := by
  have hf := fb_le k
  have hp := pl_le k
  have h1 : (M * V).natAbs ≤ 16 * 4 := by rw [Int.natAbs_mul]; exact Nat.mul_le_mul hM hV
  have h2 : (M * V * V).natAbs ≤ 16 * 4 * 4 := by rw [Int.natAbs_mul]; exact Nat.mul_le_mul h1 hV
  have g1 := mul_dyx hh hm (by rw [Int.one_mul]; omega) (by omega) (by omega)
  rw [Int.one_mul] at g1
  have g2 := mul_dyx g1 hv (by omega) (by omega) (by omega)
  have g3 := mul_dyx g2 hv (by omega) (by omega) (by omega)
  exact ⟨g1, g2, g3, h2⟩
/-- What the law computes beside it. -/
def en64 (m s p v : Nat) : Nat := fa .add .f64 (fa .mul .f64 (fa .mul .f64 (fa .mul .f64 half64 (widen m)) (widen v)) (widen v)) (fa .mul .f64 (fa .mul .f64 (fa .mul .f64 half64 (widen s)) (widen p)) (widen p))
structure EnF (m s p v : Nat) : Prop where
  e : ∃ q, Rv .f32 (energy m s p v) q
  a1 : ∃ q, Rv .f64 (fa .mul .f64 half64 (widen m)) q
  a2 : ∃ q, Rv .f64 (fa .mul .f64 (fa .mul .f64 half64 (widen m)) (widen v)) q
  a3 : ∃ q, Rv .f64 (fa .mul .f64 (fa .mul .f64 (fa .mul .f64 half64 (widen m)) (widen v)) (widen v)) q
  b1 : ∃ q, Rv .f64 (fa .mul .f64 half64 (widen s)) q
  b2 : ∃ q, Rv .f64 (fa .mul .f64 (fa .mul .f64 half64 (widen s)) (widen p)) q
  b3 : ∃ q, Rv .f64 (fa .mul .f64 (fa .mul .f64 (fa .mul .f64 half64 (widen s)) (widen p)) (widen p)) q
  w : ∃ q, Rv .f64 (en64 m s p v) q
  t : Test (widen (energy m s p v)) (en64 m s p v) 4562254508917369340 (en64 m s p v)
theorem enF {i j x y : Nat} (hi : i < 8) (hj : j < 16) (hx : x < 9) (hy : y < 9) : EnF (mW i) (sW j) (pW x) (pW y) := by
  have hm := (mw_rv (show i < 16 by omega)).1
  have hs := (mw_rv hj).2
  have hp := pw_rv hx
  have hv := pw_rv hy
  have h32 : Rv .f32 1056964608 (((1 : Int) : Rat) * Go.Fl.two (-1)) := by rw [← half_dy .f32]; exact half_rv
  have h64 : Rv .f64 half64 (((1 : Int) : Rat) * Go.Fl.two (-1)) := by rw [← half_dy .f64]; exact half64_rv
  obtain ⟨-, -, e1, n1⟩ := part_rv h32 hm hv (by omega) (by omega) (.inl rfl)
  obtain ⟨-, -, e2, n2⟩ := part_rv h32 hs hp (by omega) (by omega) (.inr rfl)
  obtain ⟨a1, a2, a3, -⟩ := part_rv h64 (widen_q hm) (widen_q hv) (by omega) (by omega) (.inl rfl)
  obtain ⟨b1, b2, b3, -⟩ := part_rv h64 (widen_q hs) (widen_q hp) (by omega) (by omega) (.inr rfl)
  have sq0 : ∀ a : Int, 0 ≤ a * a := fun a => by
    rcases Int.le_total 0 a with h | h
    · exact Int.mul_nonneg h h
    · have := Int.mul_nonneg (show 0 ≤ -a by omega) (show 0 ≤ -a by omega)
      grind
  have hA0 : 0 ≤ ((i : Int) + 1) * ((y : Int) - 4) * ((y : Int) - 4) := by rw [Int.mul_assoc]; exact Int.mul_nonneg (by omega) (sq0 _)
  have hB0 : 0 ≤ ((j : Int) + 1) * ((x : Int) - 4) * ((x : Int) - 4) := by rw [Int.mul_assoc]; exact Int.mul_nonneg (by omega) (sq0 _)
  generalize ((i : Int) + 1) * ((y : Int) - 4) * ((y : Int) - 4) = A at *
  generalize ((j : Int) + 1) * ((x : Int) - 4) * ((x : Int) - 4) = B at *
  have ec : ∀ B : Int, (B : Rat) * Go.Fl.two (-1 + -1 + -1 + -1) = ((2 * B : Int) : Rat) * Go.Fl.two (-1 + -2 + -1 + -1) := fun B => by
    rw [Rat.intCast_mul, Rat.mul_comm ((2 : Int) : Rat), Rat.mul_assoc]
    congr 1
    decide +kernel
  rw [ec] at e2 b3
  have E := add_dyx e1 e2 (by show _ < 2 ^ 24; omega) (by decide) (by decide)
  have W := add_dyx a3 b3 (by show _ < 2 ^ 53; omega) (by decide) (by decide)
  obtain ⟨C, hC, k0, k1⟩ := c001
  obtain ⟨N, hN⟩ : ∃ N : Rat, N = ((A + 2 * B : Int) : Rat) * Go.Fl.two (-1 + -2 + -1 + -1) := ⟨_, rfl⟩
  rw [← hN] at E W
  have hz : 0 ≤ N ∧ N ≤ 1000 := by
    have t5 : Go.Fl.two (-1 + -2 + -1 + -1) = 1 / 32 := by decide +kernel
    have h1 : ((0 : Int) : Rat) ≤ ((A + 2 * B : Int) : Rat) := Rat.intCast_le_intCast.2 (by omega)
    have h2 : ((A + 2 * B : Int) : Rat) ≤ ((1000 : Int) : Rat) := Rat.intCast_le_intCast.2 (by omega)
    rw [show ((0 : Int) : Rat) = 0 from rfl] at h1
    rw [show ((1000 : Int) : Rat) = 1000 from rfl] at h2
    rw [hN, t5]
    grind
  exact ⟨⟨_, E⟩, ⟨_, a1⟩, ⟨_, a2⟩, ⟨_, a3⟩, ⟨_, b1⟩, ⟨_, b2⟩, ⟨_, b3⟩, ⟨_, W⟩, Test.of (e := 0) (widen_q E) W (by unfold Wi; grind) (by decide +kernel) hC W (by grind) (by grind) hz.1 (by grind) (by grind)⟩
end Go.Proofs.Ytmpmnhnobgidoaa
