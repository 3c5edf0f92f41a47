/- Floats as whole numbers: exact rounding, order, signs, whole parts. -/
import Derived.Test.YtmpmnhnobgidoaaN
namespace Go.Fl
set_option linter.unusedSimpArgs false
set_option linter.unusedVariables false
open Go Go.RowKit

/-- A number's magnitude, in units of 2 to the power of -K. -/
def sc (K : Nat) (m : Nat) (e : Int) : Nat := m * 2 ^ (e + K).toNat

theorem read_word (f : Ieee.Format) (neg : Bool) (rung : Nat) (h : rung ≤ f.infRung) : f.read (f.word neg rung) =
    if rung < f.binade then .number neg rung f.leastPlace
    else if rung < f.infRung then .number neg (f.binade + rung % f.binade) (f.leastPlace + (rung / f.binade - 1 : Nat))
    else .infinity neg := by
  have h1 := f.infRung_lt
  have hs : rung < f.signWeight := by omega
  have hneg : (f.word neg rung / f.signWeight % 2 == 1) = neg := by
    unfold Ieee.Format.word
    have hp : 0 < f.signWeight := by omega
    cases neg
    · simp [Nat.div_eq_of_lt hs]
    · simp only [if_true]
      rw [Nat.add_div_left _ hp, Nat.div_eq_of_lt hs]; rfl
  unfold Ieee.Format.read
  simp only [word_rung f neg h, hneg]
  split
  · rfl
  · split
    · rfl
    · rw [if_pos (by omega)]

theorem nearest_zero (f : Ieee.Format) (neg : Bool) (place : Int) : f.read (f.nearest neg 0 place) = .number neg 0 f.leastPlace := by
  have h : 0 < f.binade := Nat.two_pow_pos _
  unfold Ieee.Format.nearest
  rw [if_pos rfl, read_word _ _ _ (Nat.zero_le _), if_pos h]
/-- The sign stays, and nought stays nought. -/
theorem nearest_shape (f : Ieee.Format) (neg : Bool) (mag : Nat) (place : Int) :
    (∃ m e, f.read (f.nearest neg mag place) = .number neg m e ∧ (mag = 0 → m = 0)) ∨ (f.read (f.nearest neg mag place) = .infinity neg ∧ mag ≠ 0) := by
  have hbp : 0 < f.binade := Nat.two_pow_pos _
  unfold Ieee.Format.nearest
  split
  · left
    rw [read_word f neg 0 (Nat.zero_le _), if_pos hbp]
    exact ⟨_, _, rfl, fun _ => rfl⟩
  · rename_i hne
    dsimp only
    rw [read_word f neg _ (Nat.min_le_right ..)]
    split
    · exact .inl ⟨_, _, rfl, fun h => absurd h hne⟩
    · split
      · exact .inl ⟨_, _, rfl, fun h => absurd h hne⟩
      · exact .inr ⟨rfl, hne⟩

/-- What has few digits is rounded to itself. -/
theorem nearest_exact (f : Ieee.Format) (neg : Bool) (mag : Nat) (place : Int) (h0 : mag ≠ 0) (hl : mag.log2 ≤ f.fractionBits) (hp : f.leastPlace ≤ place)
    (ht : (place + (mag.log2 : Int) - f.fractionBits - f.leastPlace + 2) * f.binade ≤ f.infRung) (hi : 2 * f.binade ≤ f.infRung) :
    ∃ m e, f.read (f.nearest neg mag place) = .number neg m e ∧ f.leastPlace ≤ e ∧ m * 2 ^ (e - f.leastPlace).toNat = mag * 2 ^ (place - f.leastPlace).toNat := by
  have hbp : 0 < f.binade := Nat.two_pow_pos _
  have hbb : f.binade = 2 ^ f.fractionBits := rfl
  unfold Ieee.Format.nearest
  rw [if_neg h0]
  dsimp only
  generalize hlast : max (place + (mag.log2 : Int) - (f.fractionBits : Nat)) f.leastPlace = last
  have hd : (last - place).toNat = 0 := by omega
  rw [hd, cut_none]
  have hlt : mag < 2 ^ (mag.log2 + 1) := Nat.lt_log2_self
  have hge : 2 ^ mag.log2 ≤ mag := Nat.log2_self_le h0
  have hk2 : mag <<< (place - last).toNat < 2 * f.binade := by
    rw [Nat.shiftLeft_eq, hbb, ← Nat.pow_succ']
    refine Nat.lt_of_lt_of_le (Nat.mul_lt_mul_of_pos_right hlt (Nat.two_pow_pos _)) ?_
    rw [← Nat.pow_add]
    exact Nat.pow_le_pow_right (by decide) (by omega)
  by_cases hc : last = f.leastPlace
  · have hz : (last - f.leastPlace).toNat = 0 := by omega
    rw [hz, Nat.zero_mul, Nat.zero_add]
    have hle : mag <<< (place - last).toNat ≤ f.infRung := by omega
    rw [Nat.min_eq_left hle, read_word f neg _ hle]
    have hsh : mag <<< (place - last).toNat = mag * 2 ^ (place - f.leastPlace).toNat := by rw [Nat.shiftLeft_eq, hc]
    generalize mag <<< (place - last).toNat = kept at *
    split
    · exact ⟨_, _, rfl, by omega, by rw [Int.sub_self, Int.toNat_zero, Nat.pow_zero, Nat.mul_one]; exact hsh⟩
    · rename_i hb
      have hmod : kept % f.binade = kept - f.binade := by
        rw [show kept = f.binade + (kept - f.binade) by omega, Nat.add_mod_left, Nat.mod_eq_of_lt (by omega)]; omega
      have hdiv : kept / f.binade = 1 := by
        rw [show kept = f.binade + (kept - f.binade) by omega, Nat.add_div_left _ hbp, Nat.div_eq_of_lt (by omega)]
      by_cases hi2 : kept < f.infRung
      · rw [if_pos hi2, hmod, hdiv]
        exact ⟨_, _, rfl, by omega, by simp; rw [show f.binade + (kept - f.binade) = kept by omega]; exact hsh⟩
      · omega
  · have hl2 : last = place + (mag.log2 : Int) - f.fractionBits := by omega
    have hkb : f.binade ≤ mag <<< (place - last).toNat := by
      rw [Nat.shiftLeft_eq, hbb]
      refine Nat.le_trans ?_ (Nat.mul_le_mul_right _ hge)
      rw [← Nat.pow_add]
      exact Nat.pow_le_pow_right (by decide) (by omega)
    have hsh : mag <<< (place - last).toNat = mag * 2 ^ (place - last).toNat := Nat.shiftLeft_eq _ _
    generalize hkk : mag <<< (place - last).toNat = kept at *
    obtain ⟨a, ha⟩ : ∃ a : Nat, last = f.leastPlace + a := ⟨(last - f.leastPlace).toNat, by omega⟩
    have hat : (last - f.leastPlace).toNat = a := by omega
    rw [hat]
    have hlt2 : a * f.binade + kept < f.infRung := by
      have : ((a : Int) + 2) * f.binade ≤ f.infRung := by
        have e : (place + (mag.log2 : Int) - f.fractionBits - f.leastPlace + 2) = (a : Int) + 2 := by omega
        rw [e] at ht; exact ht
      rw [Int.add_mul] at this
      have h5 : ((a * f.binade : Nat) : Int) = (a : Int) * f.binade := by push_cast; rfl
      omega
    rw [Nat.min_eq_left (Nat.le_of_lt hlt2), read_word f neg _ (Nat.le_of_lt hlt2)]
    have hdiv : (a * f.binade + kept) / f.binade = a + 1 := by
      rw [show a * f.binade + kept = (kept - f.binade) + (a + 1) * f.binade by rw [Nat.add_mul]; omega, Nat.add_mul_div_right _ _ hbp, Nat.div_eq_of_lt (by omega)]; omega
    have hmod : (a * f.binade + kept) % f.binade = kept - f.binade := by
      rw [show a * f.binade + kept = (kept - f.binade) + (a + 1) * f.binade by rw [Nat.add_mul]; omega, Nat.add_mul_mod_self_right, Nat.mod_eq_of_lt (by omega)]
    rw [if_neg (by have := Nat.zero_le (a * f.binade); omega), if_pos hlt2, hdiv, hmod]
    refine ⟨_, _, rfl, by omega, ?_⟩
    rw [show f.binade + (kept - f.binade) = kept by omega, hsh, Nat.mul_assoc, ← Nat.pow_add]
    congr 2
    omega

theorem read_least {f : Ieee.Format} {x : Nat} {s : Bool} {m : Nat} {e : Int} (h : f.read x = .number s m e) : f.leastPlace ≤ e := by
  unfold Ieee.Format.read at h
  simp only at h
  split at h
  · cases h; exact Int.le_refl _
  · split at h
    · cases h; omega
    · split at h <;> cases h
/-- A number that is no less than a power of two is rounded to no less. -/
theorem nearest_above (f : Ieee.Format) (neg : Bool) (mag : Nat) (place t : Int) (h0 : mag ≠ 0) (h : t ≤ place + (mag.log2 : Int)) (ht : f.leastPlace + f.fractionBits ≤ t) (hi : f.binade ≤ f.infRung) :
    f.read (f.nearest neg mag place) = .infinity neg ∨ ∃ m e, f.read (f.nearest neg mag place) = .number neg m e ∧ m ≠ 0 ∧ t ≤ e + (m.log2 : Int) := by
  have hbp : 0 < f.binade := Nat.two_pow_pos _
  have hbb : f.binade = 2 ^ f.fractionBits := rfl
  have hge : 2 ^ mag.log2 ≤ mag := Nat.log2_self_le h0
  unfold Ieee.Format.nearest
  rw [if_neg h0]
  dsimp only
  generalize hlast : max (place + (mag.log2 : Int) - (f.fractionBits : Nat)) f.leastPlace = last
  have hl2 : last = place + (mag.log2 : Int) - f.fractionBits := by omega
  have hkb : f.binade ≤ Ieee.Toward.even.cut neg (mag <<< (place - last).toNat) (last - place).toNat := by
    unfold Ieee.Toward.cut
    dsimp only
    refine Nat.le_trans ?_ (Nat.le_add_right _ _)
    have hlog : (mag <<< (place - last).toNat).log2 = mag.log2 + (place - last).toNat := by
      rw [Nat.log2_eq_iff (by rw [Nat.shiftLeft_eq]; exact Nat.mul_ne_zero h0 (Nat.pos_iff_ne_zero.1 (Nat.two_pow_pos _))), Nat.shiftLeft_eq]
      refine ⟨?_, ?_⟩
      · rw [Nat.pow_add]; exact Nat.mul_le_mul_right _ hge
      · rw [show mag.log2 + (place - last).toNat + 1 = (mag.log2 + 1) + (place - last).toNat by omega, Nat.pow_add]
        exact Nat.mul_lt_mul_of_pos_right Nat.lt_log2_self (Nat.two_pow_pos _)
    rw [hlog, Nat.min_eq_left (by omega), Nat.shiftLeft_eq, Nat.shiftLeft_eq, Nat.one_mul, Nat.le_div_iff_mul_le (Nat.two_pow_pos _), hbb, ← Nat.pow_add]
    refine Nat.le_trans ?_ (Nat.mul_le_mul_right _ hge)
    rw [← Nat.pow_add]
    exact Nat.pow_le_pow_right (by decide) (by omega)
  generalize Ieee.Toward.even.cut neg (mag <<< (place - last).toNat) (last - place).toNat = kept at *
  generalize hR : (last - f.leastPlace).toNat * f.binade + kept = rung
  have hRge : ((last - f.leastPlace).toNat + 1) * f.binade ≤ rung := by rw [Nat.add_mul]; omega
  rw [read_word f neg _ (Nat.min_le_right ..)]
  by_cases hri : rung < f.infRung
  · rw [Nat.min_eq_left (Nat.le_of_lt hri), if_neg (by have := Nat.le_mul_of_pos_left f.binade (show 0 < (last - f.leastPlace).toNat + 1 by omega); omega), if_pos hri]
    refine .inr ⟨_, _, rfl, by omega, ?_⟩
    have hd : (last - f.leastPlace).toNat + 1 ≤ rung / f.binade := (Nat.le_div_iff_mul_le hbp).2 hRge
    have hm : f.fractionBits ≤ (f.binade + rung % f.binade).log2 := by
      rw [Nat.le_log2 (by omega)]; omega
    omega
  · rw [Nat.min_eq_right (by omega)]
    rw [if_neg (by omega), if_neg (by omega)]
    exact .inl rfl

theorem cmp_mul (a b c : Int) (hc : 0 < c) : compare (a * c) (b * c) = compare a b := by
  have h1 : (a * c < b * c) ↔ (a < b) := ⟨fun h => Int.lt_of_mul_lt_mul_right h (Int.le_of_lt hc), fun h => Int.mul_lt_mul_of_pos_right h hc⟩
  have h2 : (a * c = b * c) ↔ (a = b) := ⟨fun h => Int.eq_of_mul_eq_mul_right (by omega) h, fun h => by rw [h]⟩
  simp only [compare, compareOfLessAndEq, h1, h2]
theorem cmp_lt (a b : Int) : (compare a b = .lt) ↔ a < b := by
  simp only [compare, compareOfLessAndEq]
  split
  · simp; assumption
  · split <;> simp_all
/-- A number, in units of 2 to the power of -K. -/
def sint (K : Nat) (s : Bool) (m : Nat) (e : Int) : Int := if s then -(sc K m e : Int) else (sc K m e : Int)
theorem signed_sc (K : Nat) (s : Bool) (m : Nat) (e base : Int) (h1 : -(K : Int) ≤ base) (h2 : base ≤ e) : sint K s m e = Ieee.signed s m (e - base).toNat * (2 ^ (base + K).toNat : Nat) := by
  have h3 : sc K m e = (m <<< (e - base).toNat) * 2 ^ (base + K).toNat := by
    unfold sc
    rw [Nat.shiftLeft_eq, Nat.mul_assoc, ← Nat.pow_add]
    congr 2
    omega
  unfold sint Ieee.signed
  cases s
  · simp only [Bool.false_eq_true, if_false]; rw [h3]; push_cast; rfl
  · simp only [if_true]; rw [h3]; push_cast; rw [Int.neg_mul]
theorem order_sc {d d' : Ieee.Datum} {s t : Bool} {m n : Nat} {e j : Int} (hx : d = .number s m e) (hy : d' = .number t n j) (K : Nat) (h1 : -(K : Int) ≤ e) (h2 : -(K : Int) ≤ j) :
    d.order d' = some (compare (sint K s m e) (sint K t n j)) := by
  subst hx hy
  simp only [Ieee.Datum.order]
  rw [signed_sc K s m e (min e j) (by omega) (by omega), signed_sc K t n j (min e j) (by omega) (by omega), cmp_mul _ _ _ (by have := Nat.two_pow_pos (min e j + (K : Int)).toNat; omega)]

/-- The whole part. -/
def whole (m : Nat) (e : Int) : Nat := m * 2 ^ e.toNat / 2 ^ (-e).toNat
theorem whole_sc (K m : Nat) (e : Int) (h : -(K : Int) ≤ e) : whole m e = sc K m e / 2 ^ K := by
  unfold whole sc
  by_cases h0 : 0 ≤ e
  · rw [show (-e).toNat = 0 by omega, Nat.pow_zero, Nat.div_one, show (e + K).toNat = e.toNat + K by omega, Nat.pow_add, ← Nat.mul_assoc, Nat.mul_div_cancel _ (Nat.two_pow_pos _)]
  · rw [show e.toNat = 0 by omega, Nat.pow_zero, Nat.mul_one]
    obtain ⟨a, ha⟩ : ∃ a : Nat, (-e).toNat = a ∧ a ≤ K := ⟨_, rfl, by omega⟩
    rw [ha.1, show (e + K).toNat = K - a by omega]
    have h3 : 2 ^ K = 2 ^ a * 2 ^ (K - a) := by rw [← Nat.pow_add]; congr 1; omega
    rw [h3, Nat.mul_div_mul_right _ _ (Nat.two_pow_pos _)]
theorem cut_whole (way : Ieee.Toward) (neg : Bool) (m : Nat) (e : Int) (hw : way = .zero ∨ (way = .down ∧ neg = false)) : way.cut neg (m <<< e.toNat) (-e).toNat = whole m e := by
  rcases hw with rfl | ⟨rfl, rfl⟩
  all_goals
    unfold Ieee.Toward.cut whole
    simp only [Bool.false_and, Bool.toNat_false, Nat.add_zero, Nat.shiftLeft_eq, Nat.one_mul]
    generalize m * 2 ^ e.toNat = n
    generalize (-e).toNat = d
    by_cases hd : d ≤ n.log2 + 2
    · rw [Nat.min_eq_left hd]
    · rw [Nat.min_eq_right (by omega)]
      have h1 : n < 2 ^ (n.log2 + 2) := Nat.lt_of_lt_of_le Nat.lt_log2_self (Nat.pow_le_pow_right (by decide) (by omega))
      rw [Nat.div_eq_of_lt h1, Nat.div_eq_of_lt (Nat.lt_of_lt_of_le h1 (Nat.pow_le_pow_right (by decide) (by omega)))]
theorem whole_zero (e : Int) : whole 0 e = 0 := by unfold whole; simp
theorem cut_zero (way : Ieee.Toward) (neg : Bool) (d : Nat) : way.cut neg 0 d = 0 := by
  unfold Ieee.Toward.cut
  cases way <;> simp

/-- A whole number as a float. -/
theorem ofInt_read (k : FloatKind) (n : Nat) (h : n.log2 ≤ 23) : ∃ m e, k.format.read (floatOfInt k (n : Int)) = .number false m e ∧ k.format.leastPlace ≤ e ∧ m * 2 ^ (e - k.format.leastPlace).toNat = n * 2 ^ (0 - k.format.leastPlace).toNat := by
  have e1 : floatOfInt k (n : Int) = k.format.nearest false n 0 := by
    unfold floatOfInt FloatKind.nearest FloatKind.encode Ieee.Format.write
    simp only [Int.natAbs_natCast]
    rw [show decide ((n : Int) < 0) = false by simp]
  rw [e1]
  by_cases h0 : n = 0
  · subst h0
    refine ⟨0, k.format.leastPlace, ?_, Int.le_refl _, by simp⟩
    exact nearest_zero _ _ _
  · refine nearest_exact k.format false n 0 h0 ?_ ?_ ?_ ?_
    · cases k
      · exact h
      · exact Nat.le_trans h (by decide)
    · cases k <;> decide
    · cases k
      · show (0 + (n.log2 : Int) - 23 - (-149) + 2) * (8388608 : Int) ≤ 2139095040; omega
      · show (0 + (n.log2 : Int) - 52 - (-1074) + 2) * (4503599627370496 : Int) ≤ 9218868437227405312; omega
    · cases k <;> decide

/-- The units of a 64-bit number. -/
def K64 : Nat := 1074
theorem K64_is : (K64 : Int) = 1074 := rfl
/-- A 32-bit number is widened to itself. -/
theorem widen_read {x : Nat} {s : Bool} {m : Nat} {e : Int} (h : Ieee.single.read x = .number s m e) : ∃ m' e', Ieee.double.read (widen x) = .number s m' e' ∧ -1074 ≤ e' ∧ sc K64 m' e' = sc K64 m e ∧ (m = 0 → m' = 0) := by
  have hd : widen x = Ieee.double.nearest s m e := by
    unfold widen
    rw [show FloatKind.f32.decode x = .number s m e from h]
    rfl
  rw [hd]
  obtain ⟨h1, h2, h3⟩ := single_read x h
  by_cases h0 : m = 0
  · subst h0
    refine ⟨0, -1074, ?_, Int.le_refl _, by simp [sc], fun _ => rfl⟩
    exact nearest_zero _ _ _
  · have hl : m.log2 < 24 := (Nat.log2_lt h0).2 h1
    obtain ⟨m', e', g1, g2, g3⟩ := nearest_exact Ieee.double s m e h0 (by show m.log2 ≤ 52; omega) (by show (-1074 : Int) ≤ e; omega)
      (by show (e + (m.log2 : Int) - 52 - (-1074) + 2) * (4503599627370496 : Int) ≤ 9218868437227405312; omega) (by decide)
    refine ⟨m', e', g1, g2, ?_, fun h => absurd h h0⟩
    unfold sc
    have a1 : (e' + K64).toNat = (e' - Ieee.double.leastPlace).toNat := by
      rw [show Ieee.double.leastPlace = -1074 from by decide]; rfl
    have a2 : (e + K64).toNat = (e - Ieee.double.leastPlace).toNat := by
      rw [show Ieee.double.leastPlace = -1074 from by decide]; rfl
    rw [a1, a2]; exact g3
theorem widen_inf {x : Nat} {s : Bool} (h : Ieee.single.read x = .infinity s) : Ieee.double.read (widen x) = .infinity s := by
  have hd : widen x = Ieee.double.word s Ieee.double.infRung := by
    unfold widen
    rw [show FloatKind.f32.decode x = .infinity s from h]
    rfl
  rw [hd, read_inf]

/-! ### The bin of a number that is not below nought -/
def nonneg (x : Nat) : Prop := (∃ s m e, Ieee.single.read x = .number s m e ∧ (s = true → m = 0)) ∨ Ieee.single.read x = .infinity false
def binOf (x : Nat) : Nat := match Ieee.single.read x with | .number _ m e => whole m e | _ => 0
def binIn (x b : Nat) : Bool := match Ieee.single.read x with | .number _ m e => decide (whole m e < b) | _ => false
theorem nonneg_notNan {x : Nat} (h : nonneg x) : isNan .f32 x = false := by
  unfold isNan
  show (Ieee.single.read x).isNaN = false
  rcases h with ⟨s, m, e, h, -⟩ | h <;> rw [h] <;> rfl
theorem sint_nonneg {K : Nat} {s : Bool} {m : Nat} {e : Int} (h : s = true → m = 0) : sint K s m e = (sc K m e : Int) := by
  unfold sint
  cases s
  · rfl
  · rw [h rfl]; simp [sc]
theorem div_lt_sc {K a b : Nat} : (a / 2 ^ K < b) ↔ ((a : Int) < ((b * 2 ^ K : Nat) : Int)) := by
  rw [Nat.div_lt_iff_lt_mul (Nat.two_pow_pos _)]; omega
theorem lt_bin {x b : Nat} (h : nonneg x) (hb : b ≤ 32) : flt .f32 x (floatOfInt .f32 (b : Int)) = binIn x b := by
  have hbl : b.log2 ≤ 23 := by
    by_cases h0 : b = 0
    · subst h0; decide
    · have : b.log2 < 6 := (Nat.log2_lt h0).2 (by omega)
      omega
  obtain ⟨n, j, hy, hj, hn⟩ := ofInt_read .f32 b hbl
  have hj' : -149 ≤ j := hj
  unfold flt binIn Ieee.Format.order
  rcases h with ⟨s, m, e, h, hs⟩ | h
  · obtain ⟨-, he, -⟩ := single_read x h
    rw [show FloatKind.f32.format.read x = .number s m e from h, h, hy, order_sc rfl rfl 149 he hj', sint_nonneg hs, sint_nonneg (by simp)]
    have : sc 149 n j = b * 2 ^ 149 := hn
    show _ = decide (whole m e < b)
    rw [whole_sc 149 m e he, this, Bool.eq_iff_iff]
    simp only [beq_iff_eq, Option.some.injEq, cmp_lt, decide_eq_true_eq]
    exact div_lt_sc.symm
  · rw [show FloatKind.f32.format.read x = .infinity false from h, h, hy]
    rfl
theorem toInt_bin {x b : Nat} (h : nonneg x) (hb : b ≤ 32) (hi : binIn x b = true) : floatToIntVal .f32 x .i64 = some ((binOf x : Nat) : Int) := by
  unfold binIn at hi
  unfold floatToIntVal binOf
  rcases h with ⟨s, m, e, h, hs⟩ | h
  · rw [h] at hi ⊢
    simp only [decide_eq_true_eq] at hi
    rw [show FloatKind.f32.decode x = .number s m e from h]
    have hc := cut_whole .zero s m e (.inl rfl)
    have hint : (Ieee.Datum.number s m e).toInt .zero = some ((whole m e : Nat) : Int) := by
      unfold Ieee.Datum.toInt Ieee.Datum.integral
      simp only [hc]
      congr 1
      unfold Ieee.signed
      cases s
      · simp
      · rw [hs rfl]; simp [whole_zero]
    rw [hint]
    simp only
    rw [if_pos ⟨by show (-9223372036854775808 : Int) ≤ _; omega, by show _ ≤ (9223372036854775807 : Int); omega⟩]
  · rw [h] at hi; cases hi

/-- math.Floor -/
def flo (x : Nat) : Nat := FloatKind.f64.encode ((FloatKind.f64.decode x).integral .down)
theorem flo_read {x : Nat} {s : Bool} {m : Nat} {e : Int} (h : Ieee.single.read x = .number s m e) (hs : s = true → m = 0) : flo (widen x) = Ieee.double.nearest s (whole m e) 0 := by
  obtain ⟨-, he, -⟩ := single_read x h
  obtain ⟨m', e', h1, h2, h3, h4⟩ := widen_read h
  have hw : whole m' e' = whole m e := by rw [whole_sc K64 m' e' h2, whole_sc K64 m e (by have := K64_is; omega), h3]
  unfold flo
  rw [show FloatKind.f64.decode (widen x) = .number s m' e' from h1]
  show Ieee.double.nearest s (Ieee.Toward.down.cut s (m' <<< e'.toNat) (-e').toNat) 0 = _
  congr 1
  rw [← hw]
  cases hs' : s
  · exact cut_whole .down false m' e' (.inr ⟨rfl, rfl⟩)
  · rw [h4 (hs hs'), Nat.zero_shiftLeft, cut_zero, whole_zero]
theorem small_read (s : Bool) (n : Nat) (hn : n < 32) : ∃ m e, Ieee.double.read (Ieee.double.nearest s n 0) = .number s m e ∧ -1074 ≤ e ∧ sc K64 m e = n * 2 ^ K64 := by
  by_cases h0 : n = 0
  · subst h0
    refine ⟨0, -1074, ?_, Int.le_refl _, by unfold sc; rw [Nat.zero_mul, Nat.zero_mul]⟩
    exact nearest_zero _ _ _
  · have hl : n.log2 < 5 := (Nat.log2_lt h0).2 (by omega)
    obtain ⟨m', e', g1, g2, g3⟩ := nearest_exact Ieee.double s n 0 h0 (by show n.log2 ≤ 52; omega) (by decide)
      (by show (0 + (n.log2 : Int) - 52 - (-1074) + 2) * (4503599627370496 : Int) ≤ 9218868437227405312; omega) (by decide)
    refine ⟨m', e', g1, g2, ?_⟩
    unfold sc
    have a1 : (e' + K64).toNat = (e' - Ieee.double.leastPlace).toNat := by
      rw [show Ieee.double.leastPlace = -1074 from by decide]; rfl
    have a2 : (0 - Ieee.double.leastPlace).toNat = K64 := by
      rw [show Ieee.double.leastPlace = -1074 from by decide]; rfl
    rw [a1, g3, a2]
theorem ofInt_read64 (n : Nat) (h : n.log2 ≤ 23) : ∃ m e, Ieee.double.read (floatOfInt .f64 (n : Int)) = .number false m e ∧ -1074 ≤ e ∧ sc K64 m e = n * 2 ^ K64 := by
  obtain ⟨m, e, h1, h2, h3⟩ := ofInt_read .f64 n h
  have a0 : FloatKind.f64.format.leastPlace = -1074 := by decide
  rw [a0] at h2 h3
  refine ⟨m, e, h1, h2, ?_⟩
  unfold sc
  have a1 : (e + K64).toNat = (e - -1074).toNat := rfl
  have a2 : ((0 : Int) - -1074).toNat = K64 := rfl
  rw [a1, h3, a2]
theorem lt_flo {x b : Nat} (h : nonneg x) (hb : b ≤ 32) : flt .f64 (flo (widen x)) (floatOfInt .f64 (b : Int)) = binIn x b := by
  have hbl : b.log2 ≤ 23 := by
    by_cases h0 : b = 0
    · subst h0; decide
    · have : b.log2 < 6 := (Nat.log2_lt h0).2 (by omega)
      omega
  obtain ⟨n, j, hy, hj', hn'⟩ := ofInt_read64 b hbl
  unfold flt binIn Ieee.Format.order
  rcases h with ⟨s, m, e, h, hs⟩ | h
  · rw [flo_read h hs, h, show FloatKind.f64.format.read (floatOfInt .f64 (b : Int)) = .number false n j from hy]
    simp only
    show ((Ieee.double.read (Ieee.double.nearest s (whole m e) 0)).order _ == _) = _
    by_cases hw : whole m e < 32
    · obtain ⟨m', e', g1, g2, g3⟩ := small_read s _ hw
      rw [order_sc g1 rfl K64 g2 hj']
      have hs' : sint K64 s m' e' = ((whole m e * 2 ^ K64 : Nat) : Int) := by
        unfold sint
        rw [g3]
        cases hsb : s
        · rfl
        · rw [hs hsb]; simp [whole_zero]
      rw [hs', sint_nonneg (by simp), hn', Bool.eq_iff_iff]
      simp only [beq_iff_eq, Option.some.injEq, cmp_lt, decide_eq_true_eq]
      exact Int.ofNat_lt.trans (Nat.mul_lt_mul_right (Nat.two_pow_pos K64))
    · have h0 : whole m e ≠ 0 := by omega
      have hsf : s = false := by
        cases hsb : s
        · rfl
        · rw [hs hsb, whole_zero] at h0; exact absurd rfl h0
      subst hsf
      have hl : 5 ≤ (whole m e).log2 := by rw [Nat.le_log2 h0]; omega
      have hbin : decide (whole m e < b) = false := by simp; omega
      rw [hbin]
      rcases nearest_above Ieee.double false (whole m e) 0 5 h0 (by omega) (by decide) (by decide) with g | ⟨m', e', g, g0, g1⟩
      · rw [g]; rfl
      · have hlp : -1074 ≤ e' := by
          have := read_least (f := Ieee.double) g
          exact this
        rw [order_sc g rfl K64 hlp hj', sint_nonneg (by simp), sint_nonneg (by simp), hn']
        have hge : 2 ^ (5 + K64) ≤ sc K64 m' e' := by
          unfold sc
          refine Nat.le_trans ?_ (Nat.mul_le_mul_right _ (Nat.log2_self_le g0))
          rw [← Nat.pow_add]
          exact Nat.pow_le_pow_right (by decide) (by omega)
        have h2 : b * 2 ^ K64 ≤ 2 ^ (5 + K64) := by
          rw [Nat.pow_add]
          exact Nat.mul_le_mul_right _ hb
        rw [← Bool.not_eq_true]
        simp only [beq_iff_eq, Option.some.injEq, cmp_lt]
        omega
  · have h1 : flo (widen x) = Ieee.double.word false Ieee.double.infRung := by
      unfold flo
      rw [show FloatKind.f64.decode (widen x) = .infinity false from widen_inf h]
      rfl
    rw [h1, h, show FloatKind.f64.format.read (floatOfInt .f64 (b : Int)) = .number false n j from hy]
    simp only
    show ((Ieee.double.read (Ieee.double.word false Ieee.double.infRung)).order _ == _) = _
    rw [read_inf]
    rfl
theorem toInt_flo {x b : Nat} (h : nonneg x) (hb : b ≤ 32) (hi : binIn x b = true) : floatToIntVal .f64 (flo (widen x)) .i64 = some ((binOf x : Nat) : Int) := by
  unfold binIn at hi
  unfold floatToIntVal binOf
  rcases h with ⟨s, m, e, h, hs⟩ | h
  · rw [h] at hi ⊢
    simp only [decide_eq_true_eq] at hi
    rw [flo_read h hs]
    obtain ⟨m', e', g1, g2, g3⟩ := small_read s (whole m e) (by omega)
    rw [show FloatKind.f64.decode (Ieee.double.nearest s (whole m e) 0) = .number s m' e' from g1]
    have hc := cut_whole .zero s m' e' (.inl rfl)
    have hw : whole m' e' = whole m e := by rw [whole_sc K64 m' e' g2, g3, Nat.mul_div_cancel _ (Nat.two_pow_pos _)]
    have hint : (Ieee.Datum.number s m' e').toInt .zero = some ((whole m e : Nat) : Int) := by
      unfold Ieee.Datum.toInt Ieee.Datum.integral
      simp only [hc, hw]
      congr 1
      unfold Ieee.signed
      cases hsb : s
      · simp
      · rw [hs hsb]; simp [whole_zero]
    rw [hint]
    simp only
    rw [if_pos ⟨by show (-9223372036854775808 : Int) ≤ _; omega, by show _ ≤ (9223372036854775807 : Int); omega⟩]
  · rw [h] at hi; cases hi

/-- What is below 2 to the power of -.. -/
theorem nonneg_nearest (s : Bool) (mag : Nat) (place : Int) (h : s = true → mag = 0) : nonneg (Ieee.single.nearest s mag place) := by
  rcases nearest_shape Ieee.single s mag place with ⟨m, e, h1, h2⟩ | ⟨h1, h2⟩
  · exact .inl ⟨s, m, e, h1, fun hs => h2 (h hs)⟩
  · right
    cases hs : s
    · rw [← hs]; exact h1.trans (by rw [hs])
    · exact absurd (h hs) h2
theorem read_inf32 (s : Bool) : Ieee.single.read (Ieee.single.word s Ieee.single.infRung) = .infinity s := by cases s <;> decide
/-- A difference that is not below nought. -/
theorem nonneg_sub {x y : Nat} (hx : fin .f32 x = true) (hy : fin .f32 y = true) (h : flt .f32 x y = false) : nonneg (fa .sub .f32 x y) := by
  unfold fin at hx hy
  unfold flt Ieee.Format.order at h
  unfold fa floatBits Ieee.Format.sub
  cases h1 : FloatKind.f32.format.read x <;> rw [h1] at hx h <;> try (cases hx; done)
  cases h2 : FloatKind.f32.format.read y <;> rw [h2] at hy h <;> try (cases hy; done)
  rename_i s m e t n j
  simp only [Ieee.Datum.opposite, Ieee.Datum.sum, Option.map_some, Option.getD_some]
  show nonneg (Ieee.single.nearest _ _ _)
  simp only [Ieee.Datum.order] at h
  have hopp : Ieee.signed (!t) n (j - min e j).toNat = -Ieee.signed t n (j - min e j).toNat := by unfold Ieee.signed; cases t <;> simp
  rw [hopp]
  have hlt : ¬ Ieee.signed s m (e - min e j).toNat < Ieee.signed t n (j - min e j).toNat := by
    rw [← cmp_lt]; simpa using h
  generalize Ieee.signed s m (e - min e j).toNat = a at *
  generalize Ieee.signed t n (j - min e j).toNat = b at *
  apply nonneg_nearest
  intro hs
  by_cases h0 : a + -b = 0
  · rw [h0]; rfl
  · rw [if_neg h0] at hs
    simp at hs
    omega
theorem write_num (s : Bool) (m : Nat) (e : Int) : FloatKind.f32.format.write (.number s m e) = Ieee.single.nearest s m e := rfl
theorem write_inf (s : Bool) : FloatKind.f32.format.write (.infinity s) = Ieee.single.word s Ieee.single.infRung := rfl
theorem read_nought : FloatKind.f32.format.read 0 = .number false 0 (-149) := by decide
theorem cmp_gt (a b : Int) : (compare a b = .gt) ↔ b < a := by
  simp only [compare, compareOfLessAndEq]
  split
  · simp; omega
  · split
    · simp; omega
    · simp; omega
theorem pos_shape (t : Bool) (n : Nat) (j : Int) (h : compare (Ieee.signed t n (j - min j (-149)).toNat) (Ieee.signed false 0 (-149 - min j (-149)).toNat) = Ordering.gt) : t = false ∧ n ≠ 0 := by
  have e : Ieee.signed false 0 (-149 - min j (-149)).toNat = 0 := by unfold Ieee.signed; simp
  rw [e, cmp_gt] at h
  generalize (j - min j (-149)).toNat = a at h
  unfold Ieee.signed at h
  cases t
  · refine ⟨rfl, fun hn => ?_⟩
    rw [hn, Nat.zero_shiftLeft] at h
    exact absurd h (by decide)
  · exfalso
    rw [if_pos rfl] at h
    generalize n <<< a = N at h
    omega
theorem above_shape {y : Nat} {t : Bool} {n : Nat} {j : Int} (h2 : FloatKind.f32.format.read y = .number t n j) (h : fgt .f32 y 0 = true) : t = false ∧ n ≠ 0 := by
  unfold fgt Ieee.Format.order at h
  rw [h2, read_nought] at h
  simp only [Ieee.Datum.order, beq_iff_eq, Option.some.injEq] at h
  exact pos_shape t n j h
theorem nonneg_quo {x y : Nat} (hx : nonneg x) (hy : fin .f32 y = true) (h : fgt .f32 y 0 = true) : nonneg (fa .quo .f32 x y) := by
  unfold fin at hy
  cases h2 : FloatKind.f32.format.read y <;> rw [h2] at hy <;> try (cases hy; done)
  rename_i t n j
  obtain ⟨rfl, hn⟩ := above_shape h2 h
  unfold fa floatBits Ieee.Format.div
  rw [h2]
  rcases hx with ⟨s, m, e, h1, hs⟩ | h1
  · rw [show FloatKind.f32.format.read x = .number s m e from h1]
    simp only [Ieee.Datum.quotient]
    rw [if_neg hn]
    simp only [Option.map_some]
    rw [Option.getD_some, write_num, Bool.xor_false]
    apply nonneg_nearest
    intro hs'
    rw [hs hs']
    simp
  · rw [show FloatKind.f32.format.read x = .infinity false from h1]
    simp only [Ieee.Datum.quotient]
    simp only [Option.map_some]
    rw [Option.getD_some, write_inf, Bool.xor_false]
    exact .inr (read_inf32 false)
end Go.Fl
