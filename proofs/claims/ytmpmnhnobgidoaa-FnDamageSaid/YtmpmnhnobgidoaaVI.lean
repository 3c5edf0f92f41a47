/- Equal ranges of cycles of small whole loads. -/
import Derived.Test.YtmpmnhnobgidoaaVG
namespace Go.Proofs.Ytmpmnhnobgidoaa
set_option linter.unusedSimpArgs false
set_option linter.unusedVariables false
open Go.RowKit Go.Fl Go.Lib

theorem sqs_rv {c : Cyc} {R : Nat} (hR : R ≤ 16) (h : Rv .f32 (rng c) (((R : Int) : Rat) * Go.Fl.two 0)) : ∀ n : Nat, n ≤ 2 → Rv .f32 (sqs (rng c) n) ((((R ^ 2 ^ n : Nat) : Int) : Rat) * Go.Fl.two 0)
  | 0, _ => by simpa [sqs] using h
  | n + 1, hn => by
    have ih := sqs_rv hR h n (by omega)
    have hb := pow16 hR (show 2 ^ (n + 1) ≤ 4 from Nat.pow_le_pow_right (by decide) hn)
    have e : ((R ^ 2 ^ (n + 1) : Nat) : Int) = ((R ^ 2 ^ n : Nat) : Int) * ((R ^ 2 ^ n : Nat) : Int) := by
      rw [Nat.pow_succ 2 n, Nat.mul_two, Nat.pow_add]; push_cast; rfl
    rw [e]
    have := mul_dy ih ih (by rw [← e]; show _ < 2 ^ 24; omega) (by omega) (by show (-149 : Int) ≤ _; omega)
    exact this
theorem eqSum_rv {cs : List Cyc} (h : ∀ c ∈ cs, CW2 c) (hl : cs.length ≤ 16) {n : Nat} (hn : n ≤ 2) : ∀ k, k ≤ cs.length → Rv .f32 (eqSum cs n k) ((((sumN (2 ^ n) (cs.take k) : Nat) : Int) : Rat) * Go.Fl.two (-1))
  | 0, _ => by
    have : sumN (2 ^ n) (cs.take 0) = 0 := by simp [sumN]
    rw [this]
    have e : (((0 : Nat) : Int) : Rat) * Go.Fl.two (-1) = 0 := by simp
    rw [e]
    exact rv_zero .f32
  | k + 1, hk => by
    have ih := eqSum_rv h hl hn k (by omega)
    have hp : 2 ^ n ≤ 4 := Nat.pow_le_pow_right (by decide) hn
    have hc := h cs[k] (List.getElem_mem (by omega))
    obtain ⟨R, hR, e, -⟩ := quo_str (.inr ⟨rfl, rfl⟩) hc
    have hr : Rv .f32 (rng cs[k]) (((R : Int) : Rat) * Go.Fl.two 0) := by
      rw [e, show Go.Fl.two 0 = 1 from rfl, Rat.mul_one]
      exact ofInt_q .f32 (R : Int) (by show _ < 2 ^ 24; omega)
    have hs := sqs_rv hR hr n hn
    have hle := sumN_le hp (cs := cs.take (k + 1)) (fun c hc => h c (List.mem_of_mem_take hc))
    have hlen : (cs.take (k + 1)).length ≤ 16 := by simp; omega
    rw [eqSum_succ cs n k (by omega), sumN_take cs k (by omega)]
    rw [sumN_take cs k (by omega)] at hle
    have hcn : cN (2 ^ n) cs[k] = wtN cs[k] * R ^ 2 ^ n := by unfold cN; rw [rngN_is e hR]
    rw [hcn] at hle ⊢
    have e3 : ((sumN (2 ^ n) (cs.take k) + wtN cs[k] * R ^ 2 ^ n : Nat) : Int) = ((sumN (2 ^ n) (cs.take k) : Nat) : Int) + ((wtN cs[k] * R ^ 2 ^ n : Nat) : Int) := by push_cast; rfl
    have e4 : ((wtN cs[k] * R ^ 2 ^ n : Nat) : Int) = ((wtN cs[k] : Nat) : Int) * ((R ^ 2 ^ n : Nat) : Int) := by push_cast; rfl
    have hm := mul_dy (wt_rv cs[k]) hs (by rw [← e4]; show _ < 2 ^ 24; omega) (by omega) (by show (-149 : Int) ≤ _; omega)
    rw [← e4] at hm
    unfold eq1
    rw [e3]
    exact add_dy ih hm (by rw [← e3]; show _ < 2 ^ 24; omega) (by omega) (by show (-149 : Int) ≤ _; omega)
/-- Roots, nearly. -/
theorem root_rel {x : Nat} {a : Rat} (hx : Rv .f32 x a) (h0 : 0 ≤ a) (h1 : a ≤ 4000000) : ∃ r, Rv .f32 (root32 x) r ∧ 0 ≤ r ∧ r ≤ 2010 ∧ Wi (r * r - a) (a / 3000000 + 1 / 50000000) := by
  have hbig := tp_big .f64
  obtain ⟨Q, r1, b1, b2, b3, b4, b5⟩ := root_q (widen_q hx) h0 (by grind)
  have hae : a * ep .f64 ≤ a / 1000000000000 := by rw [ep64]; grind
  have bQ : Q ≤ 2001 := by
    apply Rat.not_lt.1
    intro hc
    have k1 := Rat.mul_le_mul_of_nonneg_left (Rat.le_of_lt hc) b1
    grind
  have hQw : Wi Q 2001 := by unfold Wi; grind
  have b6 : Wi (r1 - Q) (1 / 1000000000000) := (b5.wi hQw).mono (by rw [ep64]; have := et64; grind)
  have b7 := b5.pos b1
  have hr1 : r1 ≤ 2002 := by unfold Wi at b6; grind
  have hbig2 := n127_big
  obtain ⟨hf, r, c1, c2⟩ := narrow_q b4 (by grind) (by grind)
  have c3 := c2.wi (Wi.self b7)
  have c4 := c2.pos b7
  have hu : Wi (r - Q) (Q / 8388608 + 1 / 500000000000) := by
    have e : r - Q = (r - r1) + (r1 - Q) := by grind
    rw [e]
    refine (c3.add b6).mono ?_
    rw [ep32]; have := et32; unfold Wi at b6; grind
  have hr : r ≤ 2010 := by unfold Wi at hu; grind
  have hrw : Wi r (Q / 8388608 + 1 / 500000000000 + Q) := by unfold Wi at hu ⊢; grind
  have hsq := Wi.squares hu hrw (Wi.self b1)
  unfold root32
  refine ⟨r, c1, c4, hr, ?_⟩
  have e : r * r - a = (r * r - Q * Q) + (Q * Q - a) := by grind
  rw [e]
  have hqa : Wi (Q * Q - a) (a / 1000000000000) := by unfold Wi; grind
  refine (hsq.add hqa).mono ?_
  have hQ2 : Q * Q ≤ a + a / 1000000000000 := by grind
  have hexp : (Q / 8388608 + 1 / 500000000000) * (Q / 8388608 + 1 / 500000000000 + Q + Q) = (Q * Q) * (1 / 8388608 * (2 + 1 / 8388608)) + Q * (1 / 500000000000 * (2 + 2 / 8388608)) + 1 / 500000000000 * (1 / 500000000000) := by grind
  rw [hexp]
  grind
/-- Powers in 64 bits. -/
def xpow (w : Nat) : Nat → Nat
  | 0 => 4607182418800017408
  | k + 1 => fa .mul .f64 (xpow w k) w
theorem xpow_step {w : Nat} {k : Nat} {X r B : Rat} (hx : Rv .f64 (xpow w k) X) (hw : Rv .f64 w r) (h0 : 0 ≤ X * r) (hB : X * r ≤ B) (hB2 : B ≤ 100000000) : ∃ Y, Rv .f64 (xpow w (k + 1)) Y ∧ 0 ≤ Y ∧ Wi (Y - X * r) (B / 4503599627370496 + 1 / 1152921504606846976) := by
  have hwi : Wi (X * r) B := by unfold Wi; grind
  obtain ⟨Y, g1, g2⟩ := mul_w hx hw hwi (by grind)
  refine ⟨Y, g1, g2.pos h0, (g2.wi hwi).mono ?_⟩
  rw [ep64]; have := et64; grind
theorem cnt_all : ∀ x : Fin 8, fa .quo .f32 (floatOfInt .f32 ((x.val : Int) + 1)) 1073741824 = FloatKind.f32.format.nearest false (x.val + 1) (-1) := by decide +kernel
theorem cnt_rv {x : Int} (h0 : 0 ≤ x) (h1 : x < 8) : ∃ c : Rat, Rv .f32 (fa .quo .f32 (floatOfInt .f32 (x + 1)) 1073741824) c ∧ 1 / 2 ≤ c ∧ c ≤ 4 := by
  have e := cnt_all ⟨x.toNat, by omega⟩
  simp only [] at e
  rw [show ((x.toNat : Nat) : Int) = x by omega] at e
  rw [e]
  refine ⟨_, near_dy (x.toNat + 1) (-1) (by omega) (by omega) (by omega), ?_, ?_⟩
  · have h2 : ((1 : Int) : Rat) ≤ (((x.toNat + 1 : Nat) : Int) : Rat) := Rat.intCast_le_intCast.2 (by omega)
    rw [show Go.Fl.two (-1) = 1 / 2 by decide +kernel]
    rw [show ((1 : Int) : Rat) = 1 from rfl] at h2
    grind
  · have h2 : (((x.toNat + 1 : Nat) : Int) : Rat) ≤ ((8 : Int) : Rat) := Rat.intCast_le_intCast.2 (by omega)
    rw [show Go.Fl.two (-1) = 1 / 2 by decide +kernel]
    rw [show ((8 : Int) : Rat) = 8 from rfl] at h2
    grind
/-- The last powers are near the number that the roots are made of. -/
theorem pow_near {s n : Nat} {S : Rat} (hn : n ≤ 2) (hs : Rv .f32 s S) (h0 : 0 ≤ S) (h1 : S ≤ 3000000) :
    ∃ E, Rv .f32 (rts s n) E ∧ (∀ k, k ≤ 2 ^ n → ∃ X, Rv .f64 (xpow (widen (rts s n)) k) X) ∧ ∃ X, Rv .f64 (xpow (widen (rts s n)) (2 ^ n)) X ∧ 0 ≤ X ∧ X ≤ 3100000 ∧ Wi (X - S) (S / 500000 + 1 / 8000) := by
  match n, hn with
  | 0, _ =>
    have hw := widen_q hs
    have z0 : Rv .f64 (xpow (widen (rts s 0)) 0) 1 := one64
    obtain ⟨X, g1, g2, g3⟩ := xpow_step (B := 3000000) z0 hw (by grind) (by grind) (by decide +kernel)
    refine ⟨S, hs, fun k hk => ?_, X, g1, g2, by unfold Wi at g3; grind, ?_⟩
    · match k, hk with
      | 0, _ => exact ⟨1, z0⟩
      | 1, _ => exact ⟨X, g1⟩
    · have e : X - S = X - 1 * S := by grind
      rw [e]; exact g3.mono (by grind)
  | 1, _ =>
    obtain ⟨r, r1, r2, r3, r4⟩ := root_rel hs h0 (by grind)
    have hw := widen_q r1
    have z0 : Rv .f64 (xpow (widen (rts s 1)) 0) 1 := one64
    obtain ⟨X, g1, g2, g3⟩ := xpow_step (B := 2010) z0 hw (by grind) (by grind) (by decide +kernel)
    have hX : X ≤ 2011 := by unfold Wi at g3; grind
    have hXr := Rat.mul_nonneg g2 r2
    have hXr2 : X * r ≤ 2011 * 2010 := by
      have a := Rat.mul_le_mul_of_nonneg_right hX r2
      grind
    obtain ⟨Y, k1, k2, k3⟩ := xpow_step (B := 2011 * 2010) g1 hw hXr hXr2 (by decide +kernel)
    have hY : Wi (Y - S) (S / 500000 + 1 / 8000) := by
      have e : Y - S = (Y - X * r) + (X - 1 * r) * r + (r * r - S) := by grind
      rw [e]
      refine ((k3.add (g3.mul (show Wi r 2010 by unfold Wi; grind))).add r4).mono ?_
      grind
    refine ⟨r, r1, fun k hk => ?_, Y, k1, k2, by unfold Wi at hY; grind, hY⟩
    match k, hk with
    | 0, _ => exact ⟨1, z0⟩
    | 1, _ => exact ⟨X, g1⟩
    | 2, _ => exact ⟨Y, k1⟩
  | 2, _ =>
    obtain ⟨p, p1, p2, p3, p4⟩ := root_rel hs h0 (by grind)
    obtain ⟨r, r1, r2, r3, r4⟩ := root_rel p1 p2 (by grind)
    have hr50 : r ≤ 45 := by
      apply Rat.not_lt.1
      intro hc
      have k1 := Rat.mul_le_mul_of_nonneg_left (Rat.le_of_lt hc) r2
      unfold Wi at r4; grind
    have hw := widen_q r1
    have hrw : Wi r 45 := by unfold Wi; grind
    have z0 : Rv .f64 (xpow (widen (rts s 2)) 0) 1 := one64
    obtain ⟨X, g1, g2, g3⟩ := xpow_step (B := 45) z0 hw (by grind) (by grind) (by decide +kernel)
    have hX : X ≤ 46 := by unfold Wi at g3; grind
    have hb : ∀ (Z M : Rat), 0 ≤ Z → Z ≤ M → 0 ≤ M → Z * r ≤ M * 45 := fun Z M h1 h2 h3 => by
      have a := Rat.mul_le_mul_of_nonneg_right h2 r2
      have b := Rat.mul_le_mul_of_nonneg_left hr50 h3
      grind
    obtain ⟨Y, k1, k2, k3⟩ := xpow_step (B := 46 * 45) g1 hw (Rat.mul_nonneg g2 r2) (hb X 46 g2 hX (by decide +kernel)) (by decide +kernel)
    have hY2 := hb X 46 g2 hX (by decide +kernel)
    have hY : Y ≤ 2071 := by unfold Wi at k3; grind
    obtain ⟨Z, l1, l2, l3⟩ := xpow_step (B := 2071 * 45) k1 hw (Rat.mul_nonneg k2 r2) (hb Y 2071 k2 hY (by decide +kernel)) (by decide +kernel)
    have hZ2 := hb Y 2071 k2 hY (by decide +kernel)
    have hZ : Z ≤ 93196 := by unfold Wi at l3; grind
    obtain ⟨V, m1, m2, m3⟩ := xpow_step (B := 93196 * 45) l1 hw (Rat.mul_nonneg l2 r2) (hb Z 93196 l2 hZ (by decide +kernel)) (by decide +kernel)
    have hd : Wi (r * r * (r * r) - p * p) (S / 1000000 + 1 / 10000) := by
      have hsq := Wi.squares r4 (show Wi (r * r) (p + (p / 3000000 + 1 / 50000000)) by
        have hrr := Rat.mul_nonneg r2 r2
        unfold Wi at r4 ⊢; grind) (Wi.self p2)
      refine hsq.mono ?_
      have hpp : p * p ≤ S + (S / 3000000 + 1 / 50000000) := by unfold Wi at p4; grind
      have hexp : (p / 3000000 + 1 / 50000000) * (p + (p / 3000000 + 1 / 50000000) + p) = (p * p) * (1 / 3000000 * (2 + 1 / 3000000)) + p * (1 / 50000000 * (2 + 2 / 3000000)) + 1 / 50000000 * (1 / 50000000) := by grind
      rw [hexp]
      grind
    have hV : Wi (V - S) (S / 500000 + 1 / 8000) := by
      have e : V - S = (V - Z * r) + ((Z - Y * r) * r + ((Y - X * r) * (r * r) + ((X - 1 * r) * (r * r * r) + ((r * r * (r * r) - p * p) + (p * p - S))))) := by grind
      rw [e]
      refine (m3.add ((l3.mul hrw).add ((k3.mul (hrw.mul hrw)).add ((g3.mul ((hrw.mul hrw).mul hrw)).add (hd.add p4))))).mono ?_
      grind
    refine ⟨r, r1, fun k hk => ?_, V, m1, m2, by unfold Wi at hV; grind, hV⟩
    match k, hk with
    | 0, _ => exact ⟨1, z0⟩
    | 1, _ => exact ⟨X, g1⟩
    | 2, _ => exact ⟨Y, k1⟩
    | 3, _ => exact ⟨Z, l1⟩
    | 4, _ => exact ⟨V, m1⟩
end Go.Proofs.Ytmpmnhnobgidoaa
