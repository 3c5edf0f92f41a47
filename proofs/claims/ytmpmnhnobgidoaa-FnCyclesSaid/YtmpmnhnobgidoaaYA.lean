/- The cycles of loads: how great a difference is, either way; plain laws. -/
import Derived.Test.YtmpmnhnobgidoaaZ
import Derived.Test.YtmpmnhnobgidoaaK
namespace Go.Proofs.Ytmpmnhnobgidoaa
set_option linter.unusedSimpArgs false
set_option linter.unusedVariables false
open Go.RowKit Go.Fl

theorem cmp_swap (a b : Int) : compare b a = (compare a b).swap := by
  simp only [compare, compareOfLessAndEq]
  by_cases h1 : a < b
  · rw [if_pos h1, if_neg (by omega), if_neg (by omega)]; rfl
  · by_cases h2 : a = b
    · subst h2; rw [if_neg (by omega), if_pos rfl]; rfl
    · rw [if_neg h1, if_neg h2, if_pos (by omega)]; rfl
theorem order_swap (k : FloatKind) (x y : Nat) : k.format.order y x = (k.format.order x y).map Ordering.swap := by
  unfold Ieee.Format.order
  cases h1 : k.format.read x <;> cases h2 : k.format.read y <;> simp only [Ieee.Datum.order, Option.map_some, Option.map_none]
  · rename_i s m i t n j
    rw [show min j i = min i j from Int.min_comm ..]
    rw [cmp_swap]
  · rename_i s; cases s <;> rfl
  · rename_i s _ _ _; cases s <;> rfl
  · rename_i s t; cases s <;> cases t <;> rfl
theorem fgt_swap (k : FloatKind) (x y : Nat) : fgt k x y = flt k y x := by
  unfold fgt flt
  rw [order_swap k x y]
  cases k.format.order x y with
  | none => rfl
  | some o => cases o <;> rfl
theorem fge_swap (k : FloatKind) (x y : Nat) : fge k x y = fle k y x := by
  unfold fge fle
  rw [order_swap k x y]
  cases k.format.order x y with
  | none => rfl
  | some o => cases o <;> rfl
/-- The same in every comparison. -/
def OE (x y : Nat) : Prop := ∀ z, FloatKind.f32.format.order x z = FloatKind.f32.format.order y z
theorem OE.both {x x' y y' : Nat} (h : OE x x') (h' : OE y y') : FloatKind.f32.format.order x y = FloatKind.f32.format.order x' y' := by
  rw [h y, order_swap .f32 y x', order_swap .f32 y' x', h' x']
theorem OE_val {x y : Nat} {s s' : Bool} {m m' : Nat} {e e' : Int} (hx : Ieee.single.read x = .number s m e) (hy : Ieee.single.read y = .number s' m' e') (h : sint K64 s m e = sint K64 s' m' e') : OE x y := by
  intro z
  have hl : Ieee.single.leastPlace = -149 := by decide
  have g1 := read_least hx
  have g2 := read_least hy
  have hk : (K64 : Int) = 1074 := K64_is
  show (Ieee.single.read x).order (Ieee.single.read z) = (Ieee.single.read y).order (Ieee.single.read z)
  cases hz : Ieee.single.read z with
  | number t n j =>
    have g3 := read_least hz
    rw [order_sc hx rfl K64 (by omega) (by omega), order_sc hy rfl K64 (by omega) (by omega), h]
  | infinity t => rw [hx, hy]; rfl
  | nan t n => rw [hx, hy]; rfl
theorem OE_read {x y : Nat} (h : Ieee.single.read x = Ieee.single.read y) : OE x y := by
  intro z
  show (Ieee.single.read x).order (Ieee.single.read z) = (Ieee.single.read y).order (Ieee.single.read z)
  rw [h]
theorem sint_zero (K : Nat) (s : Bool) (e : Int) : sint K s 0 e = 0 := by
  unfold sint sc
  simp

/-- An absolute value. -/
def szOf (d : Nat) : Nat := if fle .f32 d 0 then fa .sub .f32 0 d else d
theorem fa_sub_is {x y : Nat} {d : Ieee.Datum} (h : (Ieee.single.read x).sum (Ieee.single.read y).opposite = some d) : fa .sub .f32 x y = Ieee.single.write d := by
  unfold fa floatBits Ieee.Format.sub
  show (Option.map _ ((Ieee.single.read x).sum (Ieee.single.read y).opposite)).getD _ = _
  rw [h]
  rfl
theorem read_null : Ieee.single.read 0 = .number false 0 (-149) := by decide
theorem fle_zero {d : Nat} {s : Bool} {m : Nat} {e : Int} (h : Ieee.single.read d = .number s m e) : fle .f32 d 0 = decide (sint K64 s m e ≤ 0) := by
  have hl : Ieee.single.leastPlace = -149 := by decide
  have g1 := read_least h
  have hk : (K64 : Int) = 1074 := K64_is
  unfold fle
  show ((Ieee.single.read d).order (Ieee.single.read 0) == some .lt || (Ieee.single.read d).order (Ieee.single.read 0) == some .eq) = _
  rw [order_sc h read_null K64 (by omega) (by omega), sint_zero]
  generalize sint K64 s m e = a
  simp only [compare, compareOfLessAndEq]
  by_cases h1 : a < 0
  · rw [if_pos h1]; simp; omega
  · by_cases h2 : a = 0
    · subst h2; simp
    · rw [if_neg h1, if_neg h2]; simp; omega
theorem zero_minus_zero {d : Nat} {s : Bool} {e : Int} (h : Ieee.single.read d = .number s 0 e) : ∃ s' e', Ieee.single.read (fa .sub .f32 0 d) = .number s' 0 e' := by
  have h1 : (Ieee.single.read 0).sum (Ieee.single.read d).opposite = some (.number (false && !s) 0 (min (-149) e)) := by
    rw [read_null, h]
    simp [Ieee.Datum.opposite, Ieee.Datum.sum, Ieee.signed]
  rw [fa_sub_is h1]
  show ∃ s' e', Ieee.single.read (Ieee.single.nearest (false && !s) 0 (min (-149) e)) = .number s' 0 e'
  rw [nearest_zero]
  exact ⟨_, _, rfl⟩
theorem log2_shift (m a : Nat) (h : m ≠ 0) : (m * 2 ^ a).log2 = m.log2 + a := by
  have h2 : m * 2 ^ a ≠ 0 := Nat.mul_ne_zero h (Nat.ne_of_gt (Nat.two_pow_pos a))
  rw [Nat.log2_eq_iff h2]
  have g1 := Nat.log2_self_le h
  have g2 := Nat.lt_log2_self (n := m)
  constructor
  · rw [Nat.pow_add]; exact Nat.mul_le_mul_right _ g1
  · rw [show m.log2 + a + 1 = m.log2 + 1 + a by omega, Nat.pow_add]; exact Nat.mul_lt_mul_of_pos_right g2 (Nat.two_pow_pos a)
theorem cut_exact (neg : Bool) (q d : Nat) (hq : q ≠ 0) : Ieee.Toward.even.cut neg (q * 2 ^ d) d = q := by
  unfold Ieee.Toward.cut
  have hl : (q * 2 ^ d).log2 = q.log2 + d := log2_shift q d hq
  rw [hl, show min d (q.log2 + d + 2) = d by omega, Nat.one_shiftLeft]
  have h1 : q * 2 ^ d % 2 ^ d = 0 := Nat.mul_mod_left _ _
  have h2 : q * 2 ^ d / 2 ^ d = q := Nat.mul_div_cancel _ (Nat.two_pow_pos d)
  have h3 : 0 < 2 ^ d := Nat.two_pow_pos d
  simp only [h1, h2]
  have h4 : decide (2 ^ d < 2 * 0) = false := by simp
  have h5 : (2 ^ d == 2 * 0) = false := by simp
  simp only [h4, h5]
  rfl
/-- What is read, written at the least place, is rounded as it was read. -/
theorem nearest_down (f : Ieee.Format) (neg : Bool) (m a : Nat) (hm : m ≠ 0) (hl : m.log2 ≤ f.fractionBits) : f.nearest neg (m * 2 ^ a) f.leastPlace = f.nearest neg m (f.leastPlace + a) := by
  have h2 : m * 2 ^ a ≠ 0 := Nat.mul_ne_zero hm (Nat.ne_of_gt (Nat.two_pow_pos a))
  unfold Ieee.Format.nearest
  rw [if_neg h2, if_neg hm, log2_shift m a hm]
  dsimp only
  have e1 : f.leastPlace + ((m.log2 + a : Nat) : Int) - (f.fractionBits : Int) = f.leastPlace + (a : Int) + (m.log2 : Int) - (f.fractionBits : Int) := by push_cast; omega
  rw [e1]
  generalize hlast : max (f.leastPlace + (a : Int) + (m.log2 : Int) - (f.fractionBits : Int)) f.leastPlace = last
  obtain ⟨L, hL⟩ : ∃ L : Nat, last = f.leastPlace + L := ⟨(last - f.leastPlace).toNat, by omega⟩
  have hLa : L ≤ a := by omega
  have d1 : (f.leastPlace - last).toNat = 0 := by omega
  have d2 : (last - f.leastPlace).toNat = L := by omega
  have d3 : (f.leastPlace + (a : Int) - last).toNat = a - L := by omega
  have d4 : (last - (f.leastPlace + (a : Int))).toNat = 0 := by omega
  rw [d1, d2, d3, d4, cut_none, Nat.shiftLeft_zero, Nat.shiftLeft_eq]
  have e2 : m * 2 ^ a = m * 2 ^ (a - L) * 2 ^ L := by rw [Nat.mul_assoc, ← Nat.pow_add, Nat.sub_add_cancel hLa]
  rw [e2, cut_exact _ _ _ (Nat.mul_ne_zero hm (Nat.ne_of_gt (Nat.two_pow_pos _)))]
theorem single_log {x : Nat} {s : Bool} {m : Nat} {e : Int} (h : Ieee.single.read x = .number s m e) (hm : m ≠ 0) : m.log2 ≤ Ieee.single.fractionBits := by
  have h1 := (single_read x h).1
  have : m.log2 < 24 := (Nat.log2_lt hm).2 h1
  show m.log2 ≤ 23
  omega
theorem minus_neg {d : Nat} {m : Nat} {e : Int} (h : Ieee.single.read d = .number true m e) (hm : m ≠ 0) : ∃ m' e', Ieee.single.read (fa .sub .f32 0 d) = .number false m' e' ∧ sint K64 false m' e' = sint K64 false m e := by
  have hlp : Ieee.single.leastPlace = -149 := by decide
  have hle := read_least h
  have hr := single_read d h
  rw [hlp] at hle
  obtain ⟨a, rfl⟩ : ∃ a : Nat, e = -149 + (a : Int) := ⟨(e + 149).toNat, by omega⟩
  have h1 : (Ieee.single.read 0).sum (Ieee.single.read d).opposite = some (.number false (m * 2 ^ a) (-149)) := by
    rw [read_null, h]
    have e1 : min (-149 : Int) (-149 + (a : Int)) = -149 := by omega
    have e2 : (-149 + (a : Int) - -149).toNat = a := by omega
    have e3 : m * 2 ^ a ≠ 0 := Nat.mul_ne_zero hm (Nat.ne_of_gt (Nat.two_pow_pos a))
    have e5 : Ieee.signed false 0 (-149 - -149 : Int).toNat + Ieee.signed false m a = ((m * 2 ^ a : Nat) : Int) := by
      simp [Ieee.signed, Nat.shiftLeft_eq]
    simp only [Ieee.Datum.opposite, Ieee.Datum.sum, e1, e2, Bool.not_true, e5]
    generalize m * 2 ^ a = q at *
    rw [if_neg (by omega)]
    have : decide ((q : Int) < 0) = false := by simp
    rw [this]
    rfl
  rw [fa_sub_is h1]
  show ∃ m' e', Ieee.single.read (Ieee.single.nearest false (m * 2 ^ a) (-149)) = .number false m' e' ∧ _
  have e4 : Ieee.single.nearest false (m * 2 ^ a) (-149) = Ieee.single.nearest false m (-149 + a) := by
    have := nearest_down Ieee.single false m a hm (single_log h hm)
    rw [hlp] at this
    exact this
  rw [e4]
  have hbi : Ieee.single.binade = 8388608 := by decide
  have hir : Ieee.single.infRung = 255 * 8388608 := by decide
  have hfb : Ieee.single.fractionBits = 23 := rfl
  have hml := single_log h hm
  have hlog : m.log2 ≤ 23 := by rw [hfb] at hml; exact hml
  have hk : (K64 : Int) = 1074 := K64_is
  obtain ⟨m', e', hread, hle', hval⟩ := nearest_exact Ieee.single false m (-149 + a) hm hml (by omega) (by rw [hbi, hir, hlp, hfb]; omega) (by rw [hbi, hir]; omega)
  refine ⟨m', e', hread, ?_⟩
  rw [hlp] at hval hle'
  unfold sint sc
  simp only [Bool.false_eq_true, if_false]
  have e5 : (e' + (K64 : Int)).toNat = (e' - -149).toNat + 925 := by omega
  have e6 : (-149 + (a : Int) + (K64 : Int)).toNat = (-149 + (a : Int) - -149).toNat + 925 := by omega
  rw [e5, e6, Nat.pow_add, Nat.pow_add, ← Nat.mul_assoc, ← Nat.mul_assoc, hval]
theorem sint_neg (K : Nat) (m : Nat) (e : Int) : sint K true m e ≤ 0 := by
  unfold sint; simp
theorem size_nonneg {d : Nat} (h : nonneg d) : OE (szOf d) d := by
  unfold szOf
  rcases h with ⟨s, m, e, hr, hs⟩ | hr
  · rw [fle_zero hr]
    by_cases h0 : sint K64 s m e ≤ 0
    · rw [if_pos (by simpa using h0)]
      have hm : m = 0 := by
        rw [sint_nonneg hs] at h0
        unfold sc at h0
        have hp := Nat.two_pow_pos (e + (K64 : Int)).toNat
        rcases Nat.eq_zero_or_pos m with h | h
        · exact h
        · have := Nat.mul_pos h hp; omega
      subst hm
      obtain ⟨s', e', h'⟩ := zero_minus_zero hr
      exact OE_val h' hr (by rw [sint_zero, sint_zero])
    · rw [if_neg (by simpa using h0)]
      exact fun _ => rfl
  · have : fle .f32 d 0 = false := by
      unfold fle
      show ((Ieee.single.read d).order (Ieee.single.read 0) == some .lt || (Ieee.single.read d).order (Ieee.single.read 0) == some .eq) = _
      rw [hr, read_null]; rfl
    rw [this]
    exact fun _ => rfl
theorem size_neg {d r : Nat} (h : nonneg r) (ho : Ieee.single.read d = (Ieee.single.read r).opposite) : OE (szOf d) r := by
  unfold szOf
  rcases h with ⟨s, m, e, hr, hs⟩ | hr
  · rw [hr] at ho
    simp only [Ieee.Datum.opposite] at ho
    by_cases hm : m = 0
    · subst hm
      rw [fle_zero ho, sint_zero]
      rw [if_pos (by simp)]
      obtain ⟨s', e', h'⟩ := zero_minus_zero ho
      exact OE_val h' hr (by rw [sint_zero, sint_zero])
    · have hs0 : s = false := by
        cases s
        · rfl
        · exact absurd (hs rfl) hm
      subst hs0
      simp only [Bool.not_false] at ho
      rw [fle_zero ho, if_pos (by simpa using sint_neg _ _ _)]
      obtain ⟨m', e', h', hv⟩ := minus_neg ho hm
      exact OE_val h' hr hv
  · rw [hr] at ho
    simp only [Ieee.Datum.opposite, Bool.not_false] at ho
    have h1 : fle .f32 d 0 = true := by
      unfold fle
      show ((Ieee.single.read d).order (Ieee.single.read 0) == some .lt || (Ieee.single.read d).order (Ieee.single.read 0) == some .eq) = _
      rw [ho, read_null]; rfl
    rw [h1, if_pos rfl]
    have h2 : (Ieee.single.read 0).sum (Ieee.single.read d).opposite = some (.infinity false) := by rw [read_null, ho]; rfl
    rw [fa_sub_is h2]
    refine OE_read ?_
    show Ieee.single.read (Ieee.single.word false Ieee.single.infRung) = _
    rw [hr]
    exact read_inf32 false
theorem nearest_opp (f : Ieee.Format) (mag : Nat) (place : Int) : ∃ r, r ≤ f.infRung ∧ ∀ neg, f.nearest neg mag place = f.word neg r := by
  by_cases h0 : mag = 0
  · exact ⟨0, Nat.zero_le _, fun neg => by unfold Ieee.Format.nearest; rw [if_pos h0]⟩
  · refine ⟨min ((max (place + mag.log2 - f.fractionBits) f.leastPlace - f.leastPlace).toNat * f.binade + Ieee.Toward.even.cut false (mag <<< (place - max (place + mag.log2 - f.fractionBits) f.leastPlace).toNat) (max (place + mag.log2 - f.fractionBits) f.leastPlace - place).toNat) f.infRung, Nat.min_le_right _ _, fun neg => ?_⟩
    unfold Ieee.Format.nearest
    rw [if_neg h0]
    rfl
theorem read_opp (f : Ieee.Format) (r : Nat) (h : r ≤ f.infRung) : f.read (f.word true r) = (f.read (f.word false r)).opposite := by
  rw [read_word f true r h, read_word f false r h]
  split
  · rfl
  · split <;> rfl
/-- Taken the other way round, a difference that is not nought is the opposite. -/
theorem sub_anti {x y : Nat} (hx : fin .f32 x = true) (hy : fin .f32 y = true) (h : flt .f32 y x = true) : Ieee.single.read (fa .sub .f32 y x) = (Ieee.single.read (fa .sub .f32 x y)).opposite := by
  unfold fin at hx hy
  unfold flt at h
  change (match Ieee.single.read x with | .number .. => true | _ => false) = true at hx
  change (match Ieee.single.read y with | .number .. => true | _ => false) = true at hy
  change ((Ieee.single.read y).order (Ieee.single.read x) == some .lt) = true at h
  cases h1 : Ieee.single.read x <;> rw [h1] at hx <;> try (cases hx; done)
  cases h2 : Ieee.single.read y <;> rw [h2] at hy <;> try (cases hy; done)
  rename_i s m i t n j
  rw [h1, h2] at h
  simp only [Ieee.Datum.order, beq_iff_eq, Option.some.injEq, cmp_lt] at h
  have key : ∀ (A B : Int), B < A → A - B ≠ 0 ∧ ¬ (A - B < 0) ∧ (B - A ≠ 0) ∧ B - A < 0 ∧ (B - A).natAbs = (A - B).natAbs := fun A B h => by omega
  have so : ∀ (b : Bool) (q u : Nat), Ieee.signed (!b) q u = -Ieee.signed b q u := fun b q u => by cases b <;> simp [Ieee.signed]
  have a1 : (Ieee.single.read x).sum (Ieee.single.read y).opposite = some (.number false (Ieee.signed s m (i - min i j).toNat - Ieee.signed t n (j - min i j).toNat).natAbs (min i j)) := by
    rw [h1, h2]
    simp only [Ieee.Datum.opposite, Ieee.Datum.sum, so, ← Int.sub_eq_add_neg]
    rw [show min j i = min i j from Int.min_comm ..] at h
    obtain ⟨k1, k2, -⟩ := key _ _ h
    rw [if_neg k1]
    simp [k2]
  have a2 : (Ieee.single.read y).sum (Ieee.single.read x).opposite = some (.number true (Ieee.signed s m (i - min i j).toNat - Ieee.signed t n (j - min i j).toNat).natAbs (min i j)) := by
    rw [h1, h2]
    simp only [Ieee.Datum.opposite, Ieee.Datum.sum, so, ← Int.sub_eq_add_neg]
    rw [show min j i = min i j from Int.min_comm ..] at h ⊢
    obtain ⟨-, -, k3, k4, k5⟩ := key _ _ h
    rw [if_neg k3, k5]
    simp [k4]
  rw [fa_sub_is a1, fa_sub_is a2]
  obtain ⟨r, hr, hw⟩ := nearest_opp Ieee.single (Ieee.signed s m (i - min i j).toNat - Ieee.signed t n (j - min i j).toNat).natAbs (min i j)
  show Ieee.single.read (Ieee.single.nearest true _ _) = (Ieee.single.read (Ieee.single.nearest false _ _)).opposite
  rw [hw, hw, read_opp _ _ hr]

/-- The cycle of two numbers. -/
def pair (a b : Nat) (wh : Bool) : Cyc := if flt .f32 b a then ⟨b, a, wh⟩ else ⟨a, b, wh⟩
theorem size_gap {p q : Nat} (hp : fin .f32 p = true) (hq : fin .f32 q = true) (wh : Bool) : OE (szOf (fa .sub .f32 q p)) (rng (pair p q wh)) := by
  unfold pair
  cases h : flt .f32 q p
  · rw [if_neg (by simp)]
    exact size_nonneg (nonneg_sub hq hp h)
  · rw [if_pos rfl]
    have h' : flt .f32 p q = false := by
      unfold flt at *
      rw [order_swap .f32 q p]
      rw [beq_iff_eq] at h
      rw [h]; rfl
    exact size_neg (nonneg_sub hp hq h') (sub_anti hp hq h)
theorem pair_nonneg {p q : Nat} (hp : fin .f32 p = true) (hq : fin .f32 q = true) (wh : Bool) : nonneg (rng (pair p q wh)) := by
  unfold pair
  cases h : flt .f32 q p
  · rw [if_neg (by simp)]
    exact nonneg_sub hq hp h
  · rw [if_pos rfl]
    have h' : flt .f32 p q = false := by
      unfold flt at *
      rw [order_swap .f32 q p]
      rw [beq_iff_eq] at h
      rw [h]; rfl
    exact nonneg_sub hp hq h'
theorem fge_not (x y : Nat) (hx : isNan .f32 x = false) (hy : isNan .f32 y = false) : fge .f32 x y = !flt .f32 x y := by
  rw [fge_swap, fle_not _ _ _ hy hx, fgt_swap]
/-- The reference's comparison is the program's. -/
theorem size_cmp {a b c : Nat} (ha : fin .f32 a = true) (hb : fin .f32 b = true) (hc : fin .f32 c = true) (u v : Bool) :
    fge .f32 (szOf (fa .sub .f32 c b)) (szOf (fa .sub .f32 b a)) = !flt .f32 (rng (pair b c u)) (rng (pair a b v)) := by
  rw [← fge_not _ _ (nonneg_notNan (pair_nonneg hb hc u)) (nonneg_notNan (pair_nonneg ha hb v))]
  unfold fge
  rw [(size_gap hb hc u).both (size_gap ha hb v)]
/-- A difference of finite numbers is none that is no number. -/
theorem sub_num {x y : Nat} (hx : fin .f32 x = true) (hy : fin .f32 y = true) : isNan .f32 (fa .sub .f32 x y) = false := by
  unfold fin at hx hy
  change (match Ieee.single.read x with | .number .. => true | _ => false) = true at hx
  change (match Ieee.single.read y with | .number .. => true | _ => false) = true at hy
  cases h1 : Ieee.single.read x <;> rw [h1] at hx <;> try (cases hx; done)
  cases h2 : Ieee.single.read y <;> rw [h2] at hy <;> try (cases hy; done)
  have h : ∃ d, (Ieee.single.read x).sum (Ieee.single.read y).opposite = some d := by rw [h1, h2]; exact ⟨_, rfl⟩
  obtain ⟨d, hd⟩ := h
  rw [fa_sub_is hd]
  exact write_notNaN _ (sum_notNaN hd)
theorem exact_of {k : FloatKind} {r z : Nat} (h : cn k r = z) (hz : isNan k z = false) : r = z := by
  have h1 : isNan k r = false := by rw [← isNan_cn, h]; exact hz
  rw [cn_of_not h1] at h
  exact h
theorem sub_is {x y r : Nat} (hx : fin .f32 x = true) (hy : fin .f32 y = true) (h : Hid (cn .f32 r = fa .sub .f32 (cn .f32 x) (cn .f32 y))) : r = fa .sub .f32 x y := by
  refine exact_of ?_ (sub_num hx hy)
  rw [h.out, fa_cn_left, fa_cn_right]
end Go.Proofs.Ytmpmnhnobgidoaa
