/- The law FnDamage: its numbers. -/
import Derived.Test.YtmpmnhnobgidoaaVI
namespace Go.Proofs.Ytmpmnhnobgidoaa
set_option linter.unusedSimpArgs false
set_option linter.unusedVariables false
open Go.RowKit Go.Fl Go.Lib

theorem thr_rv2 {c x : Nat} {C X : Rat} (hc : Rv .f64 c C) (hx : Rv .f64 x X) (c0 : 1 / 10000 ≤ C) (c1 : C ≤ 1) (x0 : 0 ≤ X) (x1 : X ≤ 10000000) : ∃ s t, Rv .f64 (fa .add .f64 4607182418800017408 x) s ∧ Rv .f64 (thr c x) t ∧ C * (1 + X) * (9 / 10) ≤ t := by
  have h1 : Wi (1 + X) 10000001 := by unfold Wi; grind
  obtain ⟨s, g1, g2⟩ := add_w one64 hx h1 (by decide +kernel)
  have g3 : Wi (s - (1 + X)) (1 / 1000000) := (g2.wi h1).mono (by rw [ep64]; have := et64; grind)
  have s0 : (1 + X) * (99 / 100) ≤ s := by unfold Wi at g3; grind
  have s1 : s ≤ 10000002 := by unfold Wi at g3; grind
  have hC : Wi C 1 := by unfold Wi; grind
  have h2 : Wi (C * s) (1 * 10000002) := hC.mul (by unfold Wi; grind)
  obtain ⟨t, g4, g5⟩ := mul_w hc g1 h2 (by decide +kernel)
  refine ⟨s, t, g1, g4, ?_⟩
  have c00 : 0 ≤ C := by grind
  have k1 := Rat.mul_le_mul_of_nonneg_left s0 c00
  have k0 : C * 1 ≤ C * (1 + X) := Rat.mul_le_mul_of_nonneg_left (by grind) c00
  have k4 : 0 ≤ C * s := by grind
  have k3 := g5.lo (C * s) Rat.le_refl (by grind)
  rw [ep64] at k3
  have := et64
  grind
theorem Test.of2 {x y c z : Nat} {a b e C Z : Rat} (hx : Rv .f64 x a) (hy : Rv .f64 y b) (hw : Wi (a - b) e) (he : e ≤ 1000000) (hc : Rv .f64 c C) (hz : Rv .f64 z Z) (c0 : 1 / 10000 ≤ C) (c1 : C ≤ 1) (z0 : 0 ≤ Z) (z1 : Z ≤ 10000000) (hlt : e * (11 / 10) + 1 / 1000000 < C * (1 + Z) * (9 / 10)) : Test x y c z := by
  obtain ⟨s, t, g1, g2, g3⟩ := thr_rv2 hc hz c0 c1 z0 z1
  obtain ⟨g, g4, g5, g6⟩ := gap_q hx hy hw (by grind)
  refine ⟨⟨a, b, e, hx, hy, hw, by grind⟩, ⟨_, g1⟩, ⟨_, g2⟩, ?_⟩
  rw [order_q g4 g2, if_pos]
  have := et64
  have h0 := hw.nonneg
  rw [ep64] at g6
  grind
section
variable {cs : List Cyc}
theorem sumN_split (p : Nat) (cs : List Cyc) : sumN p (cs.take 1) + sumN p (cs.drop 1) = sumN p cs := by
  unfold sumN
  rw [← List.sum_append, ← List.map_append, List.take_append_drop]
theorem dam_full {s p : Nat} {j : Int} (hs : isStr s j) (hp : p ≤ 4) (h : ∀ c ∈ cs, CW2 c) (hl : cs.length ≤ 16) : Rv .f32 (damSum cs s p cs.length) ((((sumN p cs : Nat) : Int) : Rat) * Go.Fl.two (-1 + (p : Int) * j)) := by
  have := damSum_rv hs hp h hl cs.length (Nat.le_refl _)
  rwa [List.take_length] at this
theorem nn_q (n : Nat) (c : Int) : 0 ≤ ((n : Int) : Rat) * Go.Fl.two c := Rat.mul_nonneg (Rat.intCast_nonneg.2 (by omega)) (Rat.le_of_lt (two_pos c))
theorem le_q (n : Nat) (c : Int) (N : Nat) (hn : n ≤ N) (hc : c ≤ -1) : ((n : Int) : Rat) * Go.Fl.two c ≤ (N : Rat) / 2 := by
  have h1 : ((n : Int) : Rat) ≤ (N : Rat) := by rw [Rat.intCast_natCast]; exact Rat.natCast_le_natCast.2 hn
  have h2 := two_mono hc
  rw [show Go.Fl.two (-1) = 1 / 2 by decide +kernel] at h2
  have h3 := two_pos c
  have h4 := Rat.mul_le_mul_of_nonneg_right h1 (Rat.le_of_lt h3)
  have h5 := Rat.mul_le_mul_of_nonneg_left h2 (show (0 : Rat) ≤ (N : Rat) from Rat.natCast_nonneg)
  grind
/-- The first test: damages add up. -/
theorem first_dam {p : Nat} (h1 : 1 ≤ p) (hp : p ≤ 4) (h : ∀ c ∈ cs, CW2 c) (hl : cs.length ≤ 16) :
    (∃ q, Rv .f32 (damSum cs 1090519040 p cs.length) q ∧ 0 ≤ q) ∧ (∃ q, Rv .f32 (damSum (cs.take 1) 1090519040 p (cs.take 1).length) q) ∧ (∃ q, Rv .f32 (damSum (cs.drop 1) 1090519040 p (cs.drop 1).length) q) ∧
    (∃ q, Rv .f64 (fa .add .f64 (widen (damSum (cs.take 1) 1090519040 p (cs.take 1).length)) (widen (damSum (cs.drop 1) 1090519040 p (cs.drop 1).length))) q) ∧
    Test (widen (damSum cs 1090519040 p cs.length)) (fa .add .f64 (widen (damSum (cs.take 1) 1090519040 p (cs.take 1).length)) (widen (damSum (cs.drop 1) 1090519040 p (cs.drop 1).length))) 4562254508917369340 (widen (damSum cs 1090519040 p cs.length)) := by
  have hs : isStr 1090519040 (-3) := .inl ⟨rfl, rfl⟩
  have a := dam_full hs hp h hl
  have b := dam_full hs hp (cs := cs.take 1) (fun c hc => h c (List.mem_of_mem_take hc)) (by simp; omega)
  have d := dam_full hs hp (cs := cs.drop 1) (fun c hc => h c (List.mem_of_mem_drop hc)) (by simp; omega)
  have hsum := sumN_split p cs
  have hle := sumN_le hp h
  have hc0 : (-1 : Int) + (p : Int) * -3 ≤ -1 := by omega
  have s := add_dy (widen_q b) (widen_q d) (by
    have e : ((sumN p (cs.take 1) : Nat) : Int) + ((sumN p (cs.drop 1) : Nat) : Int) = ((sumN p cs : Nat) : Int) := by omega
    rw [e]; show _ < 2 ^ 53; omega) (by omega) (by show (-1074 : Int) ≤ _; omega)
  rw [show ((sumN p (cs.take 1) : Nat) : Int) + ((sumN p (cs.drop 1) : Nat) : Int) = ((sumN p cs : Nat) : Int) by omega] at s
  have a0 := nn_q (sumN p cs) (-1 + (p : Int) * -3)
  have a1 := le_q (sumN p cs) (-1 + (p : Int) * -3) 2097152 (by omega) hc0
  refine ⟨⟨_, a, a0⟩, ⟨_, b⟩, ⟨_, d⟩, ⟨_, s⟩, ?_⟩
  obtain ⟨C, hC, c0, c1⟩ := c001
  refine Test.of2 (e := 0) (widen_q a) s (by unfold Wi; grind) (by decide +kernel) hC (widen_q a) (by grind) (by grind) a0 ?_ ?_
  · rw [show ((2097152 : Nat) : Rat) = 2097152 from rfl] at a1; grind
  · have := Rat.mul_nonneg (show 0 ≤ C by grind) a0
    grind
theorem above_rv {x : Nat} {q : Rat} (h : Rv .f32 x q) (hq : 0 < q) : above x = true := by
  unfold above
  rw [h.fin, Bool.true_and]
  have := fgt_q h (rv_zero .f32)
  first
    | (rw [this]; simpa using hq)
    | (have h2 := fle_q h (rv_zero .f32); rw [h2]; simp; grind)
/-- The second: so many equal cycles do the same. -/
theorem last_dam {n : Nat} (hn : n ≤ 2) (h : ∀ c ∈ cs, CW2 c) (hl : cs.length ≤ 16) {c : Nat} {C : Rat} (hc : Rv .f32 c C) (c0 : 1 / 2 ≤ C) (c1 : C ≤ 4) :
    (∃ q, Rv .f32 (eqRange cs c n) q) ∧ (∃ q, Rv .f32 (damSum cs 1065353216 (2 ^ n) cs.length) q) ∧ (∀ k, k ≤ 2 ^ n → ∃ X, Rv .f64 (xpow (widen (eqRange cs c n)) k) X) ∧
    (∃ q, Rv .f64 (fa .mul .f64 (xpow (widen (eqRange cs c n)) (2 ^ n)) (widen c)) q) ∧
    Test (fa .mul .f64 (xpow (widen (eqRange cs c n)) (2 ^ n)) (widen c)) (widen (damSum cs 1065353216 (2 ^ n) cs.length)) 4562254508917369340 (widen (damSum cs 1065353216 (2 ^ n) cs.length)) := by
  have hp : 2 ^ n ≤ 4 := Nat.pow_le_pow_right (by decide) hn
  have hs : isStr 1065353216 0 := .inr ⟨rfl, rfl⟩
  have a := dam_full hs hp h hl
  rw [show (-1 : Int) + ((2 ^ n : Nat) : Int) * 0 = -1 by simp] at a
  have s := eqSum_rv h hl hn cs.length (Nat.le_refl _)
  rw [List.take_length] at s
  have hle := sumN_le hp h
  have D0 := nn_q (sumN (2 ^ n) cs) (-1)
  have D1 := le_q (sumN (2 ^ n) cs) (-1) 2097152 (by omega) (Int.le_refl _)
  rw [show ((2097152 : Nat) : Rat) = 2097152 from rfl] at D1
  generalize (((sumN (2 ^ n) cs : Nat) : Int) : Rat) * Go.Fl.two (-1) = D at *
  have hCp : 0 < C := by grind
  obtain ⟨q, hq⟩ : ∃ q, q = D / C := ⟨_, rfl⟩
  have hqC : q * C = D := by rw [hq]; exact Rat.div_mul_cancel (Rat.ne_of_gt hCp)
  have q0 : 0 ≤ q := by
    apply Rat.le_of_mul_le_mul_right _ hCp; grind
  have q1 : q ≤ 2097152 := by
    apply Rat.le_of_mul_le_mul_right _ hCp
    have := Rat.mul_le_mul_of_nonneg_left c0 (show (0 : Rat) ≤ 2097152 by decide +kernel)
    grind
  obtain ⟨S, g1, g2⟩ := quo_w s hc (Rat.ne_of_gt hCp) hqC (Wi.mono (Wi.self q0) q1) (by decide +kernel)
  have g3 := g2.wi (Wi.self q0)
  have S0 := g2.pos q0
  rw [ep32] at g3
  have e32 := et32
  have S1 : S ≤ 3000000 := by unfold Wi at g3; grind
  obtain ⟨E, e1, e2, X, x1, x2, x3, x4⟩ := pow_near hn g1 S0 S1
  have hCw : Wi C 4 := by unfold Wi; grind
  have hXw : Wi X 3100000 := by unfold Wi; grind
  have hXC := hXw.mul hCw
  obtain ⟨P, p1, p2⟩ := mul_w x1 (widen_q hc) hXC (by decide +kernel)
  have p3 := p2.wi hXC
  rw [ep64] at p3
  have e64 := et64
  refine ⟨⟨E, e1⟩, ⟨D, a⟩, e2, ⟨P, p1⟩, ?_⟩
  obtain ⟨K, hK, k0, k1⟩ := c001
  have hd : Wi (P - D) (D / 400000 + 1 / 1900) := by
    have e : P - D = (P - X * C) + ((X - S) + (S - q)) * C := by grind
    rw [e]
    have hs1 : Wi ((X - S) + (S - q)) (S / 500000 + 1 / 8000 + (q * (2 * (1 / 8388608)) + et .f32)) := x4.add g3
    have hs2 := hs1.mul (Wi.self (Rat.le_of_lt hCp))
    refine (p3.add hs2).mono ?_
    have t1 : S ≤ q + (q * (2 * (1 / 8388608)) + et .f32) := by unfold Wi at g3; grind
    have t2 := Rat.mul_le_mul_of_nonneg_right t1 (Rat.le_of_lt hCp)
    have t3 : et .f32 * C ≤ 1 / 1152921504606846976 * 4 := by
      have := Rat.mul_le_mul_of_nonneg_right e32 (Rat.le_of_lt hCp)
      grind
    have t4 : (S / 500000 + 1 / 8000 + (q * (2 * (1 / 8388608)) + et .f32)) * C = (S * C) / 500000 + C / 8000 + (q * C) * (2 * (1 / 8388608)) + et .f32 * C := by grind
    rw [t4, hqC]
    have t5 : S * C ≤ D + D * (2 * (1 / 8388608)) + et .f32 * C := by
      have : (q + (q * (2 * (1 / 8388608)) + et .f32)) * C = q * C + (q * C) * (2 * (1 / 8388608)) + et .f32 * C := by grind
      rw [this, hqC] at t2
      exact t2
    grind
  refine Test.of2 p1 (widen_q a) hd (by grind) hK (widen_q a) (by grind) (by grind) D0 (by grind) ?_
  have := Rat.mul_le_mul_of_nonneg_right k0 (show 0 ≤ 1 + D by grind)
  grind
end
end Go.Proofs.Ytmpmnhnobgidoaa
