/- The law FnLists: what its calls return for small whole numbers, and its tests. -/
import Derived.Test.YtmpmnhnobgidoaaDP
import Derived.Test.YtmpmnhnobgidoaaWD
namespace Go.Proofs.Ytmpmnhnobgidoaa
set_option linter.unusedSimpArgs false
set_option linter.unusedVariables false
open Go.RowKit Go.Fl Go.Lib

theorem cn_is {k : FloatKind} {r q : Nat} {a : Rat} (h : cn k r = q) (hq : Rv k q a) : r = q := by
  have : isNan k r = false := by rw [← isNan_cn, h]; exact hq.notNan
  rw [cn_of_not this] at h; exact h
theorem two32 : Rv .f32 1073741824 ((2 : Int) : Rat) := ⟨false, 8388608, -22, by decide +kernel, by decide +kernel⟩
theorem mone32 : Rv .f32 3212836864 ((-1 : Int) : Rat) := ⟨true, 8388608, -23, by decide +kernel, by decide +kernel⟩
theorem mixed_rv {xs ys : List Nat} {ks ls : List Int} (h : Wh xs ks) (g : Wh ys ls) {i : Nat} (hi : i < xs.length) (hj : i < ys.length) :
    ∃ v : Rat, Rv .f32 (fa .add .f32 (fa .mul .f32 1073741824 xs[i]) (fa .mul .f32 3212836864 ys[i])) v ∧ Rv .f32 (fa .sub .f32 (fa .mul .f32 1073741824 xs[i]) ys[i]) v ∧ (∃ p, Rv .f32 (fa .mul .f32 1073741824 xs[i]) p) := by
  obtain ⟨k, -, -, hr, k1, k2⟩ := h.rv hi
  obtain ⟨l, -, -, hs, l1, l2⟩ := g.rv hj
  have a1 := mul_int two32 hr (by show _ < 2 ^ 24; omega)
  have a2 := mul_int mone32 hs (by show _ < 2 ^ 24; omega)
  have a3 := add_int a1 a2 (by show _ < 2 ^ 24; omega)
  have a4 := sub_int a1 hs (by show _ < 2 ^ 24; omega)
  exact ⟨_, a3, by rw [show 2 * k + -1 * l = 2 * k - l by omega]; exact a4, _, a1⟩
theorem mixed_fin {xs ys : List Nat} {ks ls : List Int} (h : Wh xs ks) (g : Wh ys ls) (hl : ys.length = xs.length) : finAll (mixed xs ys 1073741824 3212836864) = true := by
  unfold finAll
  rw [List.all_eq_true]
  intro x hx
  obtain ⟨i, hi, rfl⟩ := List.getElem_of_mem hx
  have hi' : i < xs.length := by simp [mixed] at hi; omega
  obtain ⟨hm, e⟩ := mixed_get xs ys 1073741824 3212836864 i hi' (by omega)
  rw [e]
  obtain ⟨v, hv, -⟩ := mixed_rv h g hi' (by omega)
  exact hv.fin
theorem FEq.is {zs ms : List Nat} (h : FEq zs ms) (hf : finAll ms = true) : zs = ms := by
  apply List.ext_getElem h.length
  intro i h1 h2
  have e : cn .f32 zs[i] = cn .f32 ms[i] := by
    have := congrArg (fun l => l[i]?) h
    simpa [h1, h2] using this
  have hm : fin .f32 ms[i] = true := List.all_eq_true.1 hf _ (List.getElem_mem h2)
  obtain ⟨a, ha⟩ := Rv.of_fin hm
  rw [ha.cn] at e
  exact cn_is e ha
theorem mixGood_wh {xs ys : List Nat} {ks ls : List Int} (h : Wh xs ks) (g : Wh ys ls) (hl : ys.length = xs.length) (h1 : 1 ≤ xs.length) (h2 : xs.length ≤ 16) : mixGood xs ys 1073741824 3212836864 = true := by
  unfold mixGood mixPre
  rw [h.loads h1 h2, g.loads (by omega) (by omega), mixed_fin h g hl, show fin .f32 1073741824 = true from two32.fin, show fin .f32 3212836864 = true from mone32.fin]
  simp [hl]
/-! The worst of two. -/
theorem wGood_two {xs ys : List Nat} {ks ls : List Int} (h : Wh xs ks) (g : Wh ys ls) (hl : ys.length = xs.length) (h1 : 1 ≤ xs.length) (h2 : xs.length ≤ 16) : wGood [xs, ys] = true := by
  refine wGood_yes (by simp) (by simp) fun j hj => ?_
  match j, hj with
  | 0, _ => unfold rowOk rowAt; simp [h.loads h1 h2]
  | 1, _ => unfold rowOk rowAt; simp [g.loads (by omega) (by omega), hl]
theorem fgt_self {xs : List Nat} {ks : List Int} (h : Wh xs ks) {j : Nat} (hj : j < xs.length) : fgt .f32 xs[j] xs[j] = false := by
  obtain ⟨k, -, -, hr, -, -⟩ := h.rv hj
  rw [fgt_q hr hr]; simp [Rat.lt_irrefl]
theorem wrow_self {xs : List Nat} {ks : List Int} (h : Wh xs ks) (z : List Int) (i : Nat) : ∀ j, j ≤ xs.length → wrow xs i (xs, z) j = (xs, z)
  | 0, _ => rfl
  | j + 1, hj => by
    show wstep xs i (wrow xs i (xs, z) j) j = _
    rw [wrow_self h z i j (by omega)]
    exact wstep_no (by omega) (show j < xs.length by omega) (fgt_self h (by omega))
theorem wrow_two {xs ys : List Nat} (hl : ys.length = xs.length) (z : List Int) (hz : z.length = xs.length) : ∀ j, j ≤ xs.length → ∀ i, i < xs.length →
    (wrow ys 1 (xs, z) j).1.getD i 0 = (if i < j ∧ fgt .f32 (ys.getD i 0) (xs.getD i 0) = true then ys.getD i 0 else xs.getD i 0) ∧
    (wrow ys 1 (xs, z) j).2.getD i 0 = (if i < j ∧ fgt .f32 (ys.getD i 0) (xs.getD i 0) = true then 1 else z.getD i 0)
  | 0, _, i, _ => by simp [wrow]
  | j + 1, hj, i, hi => by
    have ih := wrow_two hl z hz j (by omega)
    have hlen := wrow_len ys 1 (xs, z) j
    have ihj := ih j (by omega)
    have hx : (wrow ys 1 (xs, z) j).1[j]'(by rw [hlen.1]; exact hj) = xs.getD j 0 := by
      have := ihj.1
      rw [if_neg (by omega), List.getD_eq_getElem?_getD, List.getElem?_eq_getElem (by rw [hlen.1]; exact hj), Option.getD_some] at this
      exact this
    have hy : ys[j] = ys.getD j 0 := by simp [List.getD_eq_getElem?_getD, show j < ys.length by omega]
    show (wstep ys 1 (wrow ys 1 (xs, z) j) j).1.getD i 0 = _ ∧ (wstep ys 1 (wrow ys 1 (xs, z) j) j).2.getD i 0 = _
    cases hf : fgt .f32 (ys.getD j 0) (xs.getD j 0)
    · rw [wstep_no (by omega) (by rw [hlen.1]; exact hj) (by rw [hx, hy]; exact hf)]
      rw [(ih i hi).1, (ih i hi).2]
      by_cases hij : i = j
      · subst hij
        rw [hf]; simp
      · have : (i < j + 1) ↔ (i < j) := by omega
        simp [this]
    · rw [wstep_yes (by omega) (by rw [hlen.1]; exact hj) (by rw [hx, hy]; exact hf)]
      have hl1 : (wrow ys 1 (xs, z) j).1.length = xs.length := hlen.1
      have hl2 : (wrow ys 1 (xs, z) j).2.length = xs.length := hlen.2.trans hz
      by_cases hij : i = j
      · subst hij
        rw [if_pos ⟨by omega, hf⟩, if_pos ⟨by omega, hf⟩]
        refine ⟨?_, ?_⟩
        · show ((wrow ys 1 (xs, z) i).1.set i ys[i]).getD i 0 = _
          rw [← hy, List.getD_eq_getElem?_getD, List.getElem?_set_self (by rw [hl1]; exact hi)]; rfl
        · show ((wrow ys 1 (xs, z) i).2.set i _).getD i 0 = _
          rw [List.getD_eq_getElem?_getD, List.getElem?_set_self (by rw [hl2]; exact hi)]; rfl
      · have h1 : (i < j + 1) ↔ (i < j) := by omega
        have i1 := (ih i hi).1
        have i2 := (ih i hi).2
        simp only [List.getD_eq_getElem?_getD] at i1 i2 ⊢
        rw [List.getElem?_set_ne (by omega), List.getElem?_set_ne (by omega), i1, i2]
        simp [h1]
theorem wres_two {xs ys : List Nat} {ks ls : List Int} (h : Wh xs ks) (g : Wh ys ls) (hl : ys.length = xs.length) (h1 : 1 ≤ xs.length) (h2 : xs.length ≤ 16) :
    (wres [xs, ys]).1.length = xs.length ∧ (wres [xs, ys]).2.length = xs.length ∧ ∀ i, i < xs.length →
      (wres [xs, ys]).1.getD i 0 = (if fgt .f32 (ys.getD i 0) (xs.getD i 0) = true then ys.getD i 0 else xs.getD i 0) ∧ (wres [xs, ys]).2.getD i 0 = (if fgt .f32 (ys.getD i 0) (xs.getD i 0) = true then 1 else 0) := by
  have e : wres [xs, ys] = wrow ys 1 (xs, List.replicate xs.length 0) xs.length := by
    unfold wres
    rw [if_pos (wGood_two h g hl h1 h2)]
    show wrow ys 1 (wrow xs 0 (xs, List.replicate xs.length 0) xs.length) xs.length = _
    rw [wrow_self h _ 0 _ (Nat.le_refl _)]
  have hlen := wrow_len ys 1 (xs, List.replicate xs.length 0) xs.length
  rw [e]
  refine ⟨hlen.1, hlen.2.trans (by simp), fun i hi => ?_⟩
  have := wrow_two hl (List.replicate xs.length 0) (by simp) xs.length (Nat.le_refl _) i hi
  rw [this.1, this.2]
  simp [hi]
/-- The tests at one place. -/
structure At (xs ys : List Nat) (i : Nat) (X Y W : Nat) (O : Int) : Prop where
  x : xs[i]? = some X
  y : ys[i]? = some Y
  w : (wres [xs, ys]).1[i]? = some W
  o : (wres [xs, ys]).2[i]? = some O
  m : (mixed xs ys 1073741824 3212836864)[i]? = some (fa .add .f32 (fa .mul .f32 1073741824 X) (fa .mul .f32 3212836864 Y))
theorem At.of {xs ys : List Nat} {ks ls : List Int} (h : Wh xs ks) (g : Wh ys ls) (hl : ys.length = xs.length) (h1 : 1 ≤ xs.length) (h2 : xs.length ≤ 16) {i : Nat} (hi : i < xs.length) :
    ∃ X Y W O, At xs ys i X Y W O ∧ (∃ k l : Int, Rv .f32 X (k : Rat) ∧ Rv .f32 Y (l : Rat) ∧ ((k < l ∧ W = Y ∧ O = 1) ∨ (l ≤ k ∧ W = X ∧ O = 0))) := by
  obtain ⟨q1, q2, q3⟩ := wres_two h g hl h1 h2
  have hj : i < ys.length := by omega
  obtain ⟨k, -, -, hr, k1, k2⟩ := h.rv hi
  obtain ⟨l, -, -, hs, l1, l2⟩ := g.rv hj
  have ex : xs.getD i 0 = xs[i] := by simp [List.getD_eq_getElem?_getD, hi]
  have ey : ys.getD i 0 = ys[i] := by simp [List.getD_eq_getElem?_getD, hj]
  have hq := q3 i hi
  rw [ex, ey, fgt_q hs hr] at hq
  obtain ⟨hm, e⟩ := mixed_get xs ys 1073741824 3212836864 i hi hj
  have w1 : (wres [xs, ys]).1[i]? = some ((wres [xs, ys]).1.getD i 0) := by rw [List.getD_eq_getElem?_getD, List.getElem?_eq_getElem (by omega)]; rfl
  have w2 : (wres [xs, ys]).2[i]? = some ((wres [xs, ys]).2.getD i 0) := by rw [List.getD_eq_getElem?_getD, List.getElem?_eq_getElem (by omega)]; rfl
  refine ⟨xs[i], ys[i], _, _, ⟨List.getElem?_eq_getElem hi, List.getElem?_eq_getElem hj, w1, w2, by rw [List.getElem?_eq_getElem hm, e]⟩, k, l, hr, hs, ?_⟩
  rw [hq.1, hq.2]
  by_cases hkl : k < l
  · left
    have : ((k : Rat) < (l : Rat)) := Rat.intCast_lt_intCast.2 hkl
    simp [hkl, this]
  · right
    have : ¬ ((k : Rat) < (l : Rat)) := fun h => hkl (Rat.intCast_lt_intCast.1 h)
    refine ⟨by omega, ?_, ?_⟩ <;> simp [this]
/-! The last three tests. -/
def thr (c x : Nat) : Nat := fa .mul .f64 c (fa .add .f64 4607182418800017408 x)
theorem thr_rv {c x : Nat} {C X : Rat} (hc : Rv .f64 c C) (hx : Rv .f64 x X) (c0 : 1 / 10000 ≤ C) (c1 : C ≤ 1) (x0 : 0 ≤ X) (x1 : X ≤ 10000000) : ∃ s t, Rv .f64 (fa .add .f64 4607182418800017408 x) s ∧ Rv .f64 (thr c x) t ∧ C * (9 / 10) ≤ t := by
  have h1 : Wi (1 + X) 10000001 := by unfold Wi; grind
  obtain ⟨s, g1, g2⟩ := add_w one64 hx h1 (by decide +kernel)
  have g3 : Wi (s - (1 + X)) (1 / 1000000) := (g2.wi h1).mono (by rw [ep64]; have := et64; grind)
  have s0 : 99 / 100 ≤ s := by unfold Wi at g3; grind
  have s1 : s ≤ 10000002 := by unfold Wi at g3; grind
  have hC : Wi C 1 := by unfold Wi; grind
  have h2 : Wi (C * s) (1 * 10000002) := hC.mul (by unfold Wi; grind)
  obtain ⟨t, g4, g5⟩ := mul_w hc g1 h2 (by decide +kernel)
  refine ⟨s, t, g1, g4, ?_⟩
  have c00 : 0 ≤ C := by grind
  have k1 := Rat.mul_le_mul_of_nonneg_left s0 c00
  have k2 : Wi (C * s) (C * 10000002) := by
    have := Rat.mul_le_mul_of_nonneg_left s1 c00
    unfold Wi
    have : 0 ≤ C * s := by grind
    grind
  -- in parts of it
  have k3 := g5.lo (C * s) Rat.le_refl (by have : 0 ≤ C * s := by grind
                                           grind)
  have k4 : 0 ≤ C * s := by grind
  rw [ep64] at k3
  have hs1 := Rat.mul_le_mul_of_nonneg_left s1 (show 0 ≤ C by grind)
  have := et64
  grind
/-- A test that the law makes: two numbers are near, next to a third one. -/
structure Test (x y c z : Nat) : Prop where
  gaps : ∃ a b e : Rat, Rv .f64 x a ∧ Rv .f64 y b ∧ Wi (a - b) e ∧ e < 1000000000000000000
  s : ∃ q, Rv .f64 (fa .add .f64 4607182418800017408 z) q
  t : ∃ q, Rv .f64 (thr c z) q
  lt : FloatKind.f64.format.order (gap x y) (thr c z) = some .lt
theorem Test.of {x y c z : Nat} {a b e C Z : Rat} (hx : Rv .f64 x a) (hy : Rv .f64 y b) (hw : Wi (a - b) e) (he : e ≤ 1000000) (hc : Rv .f64 c C) (hz : Rv .f64 z Z) (c0 : 1 / 10000 ≤ C) (c1 : C ≤ 1) (z0 : 0 ≤ Z) (z1 : Z ≤ 10000000) (hlt : e * (11 / 10) + 1 / 1000000 < C * (9 / 10)) : Test x y c z := by
  obtain ⟨s, t, g1, g2, g3⟩ := thr_rv hc hz c0 c1 z0 z1
  obtain ⟨g, g4, g5, g6⟩ := gap_q hx hy hw (by grind)
  refine ⟨⟨a, b, e, hx, hy, hw, by grind⟩, ⟨_, g1⟩, ⟨_, g2⟩, ?_⟩
  rw [order_q g4 g2, if_pos]
  have := et64
  have h0 := hw.nonneg
  rw [ep64] at g6
  grind
section
variable {xs : List Nat} {ks : List Int}
theorem last1 (h : Wh xs ks) (h1 : 1 ≤ xs.length) (h2 : xs.length ≤ 16) : ∃ q, Rv .f64 (fa .mul .f64 (widen (fmean xs)) (floatOfInt .f64 (xs.length : Int))) q ∧
    Test (ssum xs xs.length) (fa .mul .f64 (widen (fmean xs)) (floatOfInt .f64 (xs.length : Int))) 4562254508917369340 (floatOfInt .f64 (xs.length : Int)) := by
  obtain ⟨μ, m1, m2⟩ := fmean_rv h h1 h2
  have hw := meanQ_wi h.2 (by have := h.len; omega)
  have hn := int_n (k := .f64) h2
  have hp := len_pos h1
  have hn16 : (xs.length : Rat) ≤ 16 := by
    have : ((xs.length : Nat) : Rat) ≤ ((16 : Nat) : Rat) := Rat.natCast_le_natCast.2 (by omega)
    exact this
  have hs := ssum_rv h h2 xs.length (Nat.le_refl _)
  have hm := meanQ_mul (ks := ks) (by have := h.len; omega)
  rw [← h.len] at hm
  rw [← hm] at hs
  generalize (xs.length : Rat) = n at *
  have hμ : Wi μ 9 := by
    have : μ = (μ - meanQ ks) + meanQ ks := by grind
    rw [this]; exact (m2.add hw).mono (by decide +kernel)
  have hnw : Wi n 16 := by unfold Wi; grind
  have hμn := hμ.mul hnw
  obtain ⟨p, g1, g2⟩ := mul_w (widen_q m1) hn hμn (by decide +kernel)
  have g3 := g2.wi hμn
  refine ⟨p, g1, ?_⟩
  obtain ⟨C, hC, c0, c1⟩ := c001
  have hd : Wi (meanQ ks * n - p) (1 / 30000) := by
    have e : meanQ ks * n - p = -((μ - meanQ ks) * n) - (p - μ * n) := by grind
    rw [e]
    refine (((m2.mul hnw).neg).sub g3).mono ?_
    rw [ep64]; have := et64; grind
  exact Test.of hs g1 hd (by decide +kernel) hC hn (by grind) (by grind) (by grind) (by grind) (by grind)
theorem last2 (h : Wh xs ks) (h1 : 1 ≤ xs.length) (h2 : xs.length ≤ 16) : ∃ q1 q2, Rv .f64 (fa .mul .f64 (widen (spread xs)) (widen (spread xs))) q1 ∧ Rv .f64 (fa .mul .f64 (fa .mul .f64 (widen (spread xs)) (widen (spread xs))) (floatOfInt .f64 (xs.length : Int))) q2 ∧
    Test (sqAcc xs (widen (fmean xs)) xs.length) (fa .mul .f64 (fa .mul .f64 (widen (spread xs)) (widen (spread xs))) (floatOfInt .f64 (xs.length : Int))) 4576918229304087675 (sqAcc xs (widen (fmean xs)) xs.length) := by
  obtain ⟨μ, m1, m2⟩ := fmean_rv h h1 h2
  have hw := meanQ_wi h.2 (by have := h.len; omega)
  obtain ⟨σ, s1, s2, s3, s4⟩ := spread_rv h h1 h2
  obtain ⟨t, g1, g2, g3, g4⟩ := sqAcc_rv h h2 (widen_q m1) hw m2 (by decide +kernel) xs.length (Nat.le_refl _)
  have hn := int_n (k := .f64) h2
  have hp := len_pos h1
  have hn16 : (xs.length : Rat) ≤ 16 := by
    have : ((xs.length : Nat) : Rat) ≤ ((16 : Nat) : Rat) := Rat.natCast_le_natCast.2 (by omega)
    exact this
  generalize (xs.length : Rat) = n at *
  have hσ : Wi σ 22 := by unfold Wi; grind
  have hnw : Wi n 16 := by unfold Wi; grind
  have hss := hσ.mul hσ
  obtain ⟨a, a1, a2⟩ := mul_w (widen_q s1) (widen_q s1) hss (by decide +kernel)
  have a3 := a2.wi hss
  have ha : Wi a 500 := by
    have : a = (a - σ * σ) + σ * σ := by grind
    rw [this]; refine (a3.add hss).mono ?_
    rw [ep64]; have := et64; grind
  have han := ha.mul hnw
  obtain ⟨b, b1, b2⟩ := mul_w a1 hn han (by decide +kernel)
  have b3 := b2.wi han
  refine ⟨a, b, a1, b1, ?_⟩
  obtain ⟨C, hC, c0, c1⟩ := c01
  have hd : Wi (t - b) (1 / 200) := by
    have e : t - b = (t - devS ks (meanQ ks) xs.length) - (σ * σ * n - devS ks (meanQ ks) xs.length) - (a - σ * σ) * n - (b - a * n) := by grind
    rw [e]
    refine (((g4.sub s4).sub (a3.mul hnw)).sub b3).mono ?_
    rw [ep64]; have := et64; grind
  exact Test.of g1 b1 hd (by decide +kernel) hC g1 (by grind) (by grind) g2 (by grind) (by grind)
theorem atLeast_le' (xs : List Nat) (l : Nat) : atLeast xs l ≤ xs.length := List.countP_le_length
theorem exceed_rv (xs : List Nat) (l : Nat) (h1 : 1 ≤ xs.length) (h2 : xs.length ≤ 16) : ∃ q, Rv .f32 (exceed xs l) q ∧ Wi (q * (xs.length : Rat) - (atLeast xs l : Rat)) (1 / 100000) ∧ 0 ≤ q ∧ q ≤ 2 := by
  have hl := atLeast_le' xs l
  have ha := int_n (k := .f32) (show atLeast xs l ≤ 16 by omega)
  have hn := int_n (k := .f32) h2
  have hp := len_pos h1
  have hq : (atLeast xs l : Rat) / (xs.length : Rat) * (xs.length : Rat) = (atLeast xs l : Rat) := Rat.div_mul_cancel (Rat.ne_of_gt hp)
  have hl' : (atLeast xs l : Rat) ≤ (xs.length : Rat) := Rat.natCast_le_natCast.2 hl
  have ha0 : (0 : Rat) ≤ (atLeast xs l : Rat) := Rat.natCast_nonneg
  have hn16 : (xs.length : Rat) ≤ 16 := by
    have : ((xs.length : Nat) : Rat) ≤ ((16 : Nat) : Rat) := Rat.natCast_le_natCast.2 (by omega)
    exact this
  generalize (atLeast xs l : Rat) / (xs.length : Rat) = q at *
  have q0 : 0 ≤ q := by
    apply Rat.le_of_mul_le_mul_right _ hp; grind
  have q1 : q ≤ 1 := by
    apply Rat.le_of_mul_le_mul_right _ hp; grind
  have hqw : Wi q 1 := by unfold Wi; grind
  obtain ⟨r, g1, g2⟩ := quo_w ha hn (Rat.ne_of_gt hp) hq hqw (by decide +kernel)
  have g3 := g2.wi hqw
  unfold exceed
  refine ⟨r, g1, ?_, g2.pos q0, ?_⟩
  · have e : r * (xs.length : Rat) - (atLeast xs l : Rat) = (r - q) * (xs.length : Rat) := by grind
    rw [e]
    refine (g3.mul (show Wi (xs.length : Rat) 16 by unfold Wi; grind)).mono ?_
    rw [ep32]; have := et32; grind
  · unfold Wi at g3
    rw [ep32] at g3
    have := et32
    grind
theorem last3 (xs : List Nat) (l : Nat) (h1 : 1 ≤ xs.length) (h2 : xs.length ≤ 16) : ∃ q, Rv .f64 (fa .mul .f64 (widen (exceed xs l)) (floatOfInt .f64 (xs.length : Int))) q ∧
    (∃ a b e : Rat, Rv .f64 (fa .mul .f64 (widen (exceed xs l)) (floatOfInt .f64 (xs.length : Int))) a ∧ Rv .f64 (floatOfInt .f64 (atLeast xs l : Int)) b ∧ Wi (a - b) e ∧ e < 1000000000000000000) ∧
    FloatKind.f64.format.order (gap (fa .mul .f64 (widen (exceed xs l)) (floatOfInt .f64 (xs.length : Int))) (floatOfInt .f64 (atLeast xs l : Int))) 4562254508917369340 = some .lt := by
  obtain ⟨q, g1, g2, q0, q2⟩ := exceed_rv xs l h1 h2
  have hl := atLeast_le' xs l
  have ha := int_n (k := .f64) (show atLeast xs l ≤ 16 by omega)
  have hn := int_n (k := .f64) h2
  have hn16 : (xs.length : Rat) ≤ 16 := by
    have : ((xs.length : Nat) : Rat) ≤ ((16 : Nat) : Rat) := Rat.natCast_le_natCast.2 (by omega)
    exact this
  have hp := len_pos h1
  have hqn : Wi (q * (xs.length : Rat)) 32 := (Wi.mul (show Wi q 2 by unfold Wi; grind) (show Wi (xs.length : Rat) 16 by unfold Wi; grind)).mono (by decide +kernel)
  obtain ⟨p, p1, p2⟩ := mul_w (widen_q g1) hn hqn (by decide +kernel)
  have p3 := p2.wi hqn
  have hd : Wi (p - (atLeast xs l : Rat)) (1 / 50000) := by
    have e : p - (atLeast xs l : Rat) = (p - q * (xs.length : Rat)) + (q * (xs.length : Rat) - (atLeast xs l : Rat)) := by grind
    rw [e]
    refine (p3.add g2).mono ?_
    rw [ep64]; have := et64; grind
  refine ⟨p, p1, ⟨p, _, _, p1, ha, hd, by decide +kernel⟩, ?_⟩
  obtain ⟨C, hC, c0, c1⟩ := c001
  obtain ⟨g, g4, g5, g6⟩ := gap_q p1 ha hd (by decide +kernel)
  rw [order_q g4 hC, if_pos]
  have := et64
  rw [ep64] at g6
  grind
end
end Go.Proofs.Ytmpmnhnobgidoaa
