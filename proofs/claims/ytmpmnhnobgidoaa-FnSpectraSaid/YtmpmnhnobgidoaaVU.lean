/- Spectra of small whole loads: the tests of the law FnSpectra. -/
import Derived.Test.YtmpmnhnobgidoaaVT
namespace Go.Proofs.Ytmpmnhnobgidoaa
set_option linter.unusedSimpArgs false
set_option linter.unusedVariables false
open Go.RowKit Go.Fl Go.Lib

theorem near_rel {q r b : Rat} (h : Near .f32 q r) (hb : Wi q b) (h0 : b = 0 ∨ 1 ≤ b) : Wi (r - q) (b * (1 / 8000000)) := by
  have e32 := ep32
  have t32 := et32
  rcases h0 with rfl | h0
  · have hq : q = 0 := by unfold Wi at hb; grind
    have h1 := h.pos (by grind)
    have h2 := h.neg (by grind)
    unfold Wi; grind
  · refine (h.wi hb).mono ?_
    rw [e32]; grind
theorem two27 : Go.Fl.two (-27) * 134217728 = 1 := by decide +kernel
theorem natAbs_rat (a : Int) : Wi (a : Rat) ((a.natAbs : Nat) : Rat) := natAbs_wi a _ (Nat.le_refl _)
/-- A scaled number of the table. -/
theorem tab_wi {C : Int} (h : C.natAbs ≤ 2 ^ 27) : Wi ((C : Rat) * Go.Fl.two (-27)) 1 := by
  have h1 := natAbs_wi C (2 ^ 27) h
  have h2 := two_pos (-27)
  have h3 := two27
  have h4 := h1.mul (Wi.self (Rat.le_of_lt h2))
  refine h4.mono ?_
  have e : ((2 ^ 27 : Nat) : Rat) = 134217728 := by decide +kernel
  rw [e]
  grind
section
variable {xs : List Nat} {ks : List Int}
def Lk (ks : List Int) (j : Nat) : Int := ks.getD j 0
theorem ph_rv {n : Nat} (h1 : 1 ≤ n) (h2 : n ≤ 16) (m k : Nat) : Rv .f32 (phRe (tq n (rOf n m k))) ((CI n (rOf n m k) : Rat) * Go.Fl.two (-27)) ∧ Rv .f32 (phIm (tq n (rOf n m k))) ((SI n (rOf n m k) : Rat) * Go.Fl.two (-27)) ∧ (CI n (rOf n m k)).natAbs ≤ 2 ^ 27 ∧ (SI n (rOf n m k)).natAbs ≤ 2 ^ 27 := by
  have hr := rOf_lt (n := n) (m := m) (k := k) h1
  generalize rOf n m k = r at *
  have ha := tab_all ⟨n, by omega⟩ ⟨r, by omega⟩ hr
  have hf := tab_fine ⟨n, by omega⟩ ⟨r, by omega⟩ hr
  simp only [] at ha hf
  rw [ha.1, ha.2]
  exact ⟨vI_rv hf.1, vI_rv hf.2.1, hf.2.2.1, hf.2.2.2⟩
/-- One step of a sum. -/
theorem sp_step {s c l : Nat} {x C' : Rat} {X C L A : Int} {k : Nat} (hk : k ≤ 16) (hx : Rv .f32 s x) (hc : Rv .f32 c ((C : Rat) * Go.Fl.two (-27))) (hl : Rv .f32 l (L : Rat)) (hC : C.natAbs ≤ 2 ^ 27) (hA : 0 ≤ A) (hA2 : A ≤ 1000) (hL : L.natAbs ≤ 8)
    (hX : (X.natAbs : Int) ≤ 2 ^ 27 * A) (he : Wi (x - (X : Rat) * Go.Fl.two (-27)) ((k : Rat) * (A : Rat) * (3 / 10000000))) :
    ∃ y, Rv .f32 (fa .add .f32 s (fa .mul .f32 c l)) y ∧ Wi (y - ((X + L * C : Int) : Rat) * Go.Fl.two (-27)) (((k + 1 : Nat) : Rat) * ((A + (L.natAbs : Int) : Int) : Rat) * (3 / 10000000)) := by
  have hcw := tab_wi hC
  have hlw := natAbs_rat L
  have hpw := hcw.mul hlw
  have ha0 : (0 : Rat) ≤ (A : Rat) := by
    have : ((0 : Int) : Rat) ≤ (A : Rat) := Rat.intCast_le_intCast.2 hA
    simpa using this
  have ha2 : (A : Rat) ≤ 1000 := by
    have : (A : Rat) ≤ ((1000 : Int) : Rat) := Rat.intCast_le_intCast.2 hA2
    simpa using this
  obtain ⟨b, hb⟩ : ∃ b : Rat, b = ((L.natAbs : Nat) : Rat) := ⟨_, rfl⟩
  have hb0 : 0 ≤ b := by rw [hb]; exact Rat.natCast_nonneg
  have hb8 : b ≤ 8 := by
    rw [hb]
    have : ((L.natAbs : Nat) : Rat) ≤ ((8 : Nat) : Rat) := Rat.natCast_le_natCast.2 hL
    simpa using this
  have hb1 : b = 0 ∨ 1 ≤ b := by
    rw [hb]
    rcases Nat.eq_zero_or_pos L.natAbs with h | h
    · left; rw [h]; rfl
    · right
      have : ((1 : Nat) : Rat) ≤ ((L.natAbs : Nat) : Rat) := Rat.natCast_le_natCast.2 h
      simpa using this
  rw [← hb, Rat.one_mul] at hpw
  obtain ⟨p, p1, p2⟩ := mul_w hc hl hpw (by grind)
  have p3 := near_rel p2 hpw hb1
  have h2 := two_pos (-27)
  have h3 := two27
  have hXw : Wi ((X : Rat) * Go.Fl.two (-27)) (A : Rat) := by
    have h5 := natAbs_rat X
    have h6 : ((X.natAbs : Nat) : Rat) ≤ 134217728 * (A : Rat) := by
      have : (((X.natAbs : Nat) : Int) : Rat) ≤ ((2 ^ 27 * A : Int) : Rat) := Rat.intCast_le_intCast.2 hX
      rw [Rat.intCast_natCast, Rat.intCast_mul] at this
      have e : ((2 ^ 27 : Int) : Rat) = 134217728 := by decide +kernel
      rwa [e] at this
    have h7 := (h5.mono h6).mul (Wi.self (Rat.le_of_lt h2))
    refine h7.mono ?_
    grind
  have hk0 : (0 : Rat) ≤ (k : Rat) := Rat.natCast_nonneg
  have hk16 : (k : Rat) ≤ 16 := by
    have : (k : Rat) ≤ ((16 : Nat) : Rat) := Rat.natCast_le_natCast.2 hk
    simpa using this
  have hkA : (k : Rat) * (A : Rat) ≤ 16 * (A : Rat) := Rat.mul_le_mul_of_nonneg_right hk16 ha0
  have hxw : Wi x ((A : Rat) * (1001 / 1000)) := by unfold Wi at *; grind
  have hp' : Wi p (b * (1001 / 1000)) := by unfold Wi at *; grind
  have hs : Wi (x + p) (((A : Rat) + b) * (101 / 100)) := (hxw.add hp').mono (by grind)
  obtain ⟨y, y1, y2⟩ := add_w hx p1 hs (by grind)
  have hAb : ((A : Rat) + b) * (101 / 100) = 0 ∨ 1 ≤ ((A : Rat) + b) * (101 / 100) := by
    have e : (A : Rat) + b = ((A + (L.natAbs : Int) : Int) : Rat) := by rw [hb, Rat.intCast_add, Rat.intCast_natCast]
    rcases Int.lt_or_eq_of_le (show 0 ≤ A + (L.natAbs : Int) by omega) with h | h
    · right
      have : ((1 : Int) : Rat) ≤ ((A + (L.natAbs : Int) : Int) : Rat) := Rat.intCast_le_intCast.2 h
      rw [← e] at this
      rw [show ((1 : Int) : Rat) = 1 from rfl] at this
      grind
    · left
      rw [e, ← h]
      decide +kernel
  have y3 := near_rel y2 hs hAb
  refine ⟨y, y1, ?_⟩
  have e1 : ((X + L * C : Int) : Rat) * Go.Fl.two (-27) = (X : Rat) * Go.Fl.two (-27) + (C : Rat) * Go.Fl.two (-27) * (L : Rat) := by
    rw [Rat.intCast_add, Rat.intCast_mul]; grind
  have e2 : (((k + 1 : Nat) : Rat) * ((A + (L.natAbs : Int) : Int) : Rat) * (3 / 10000000)) = ((k : Rat) * (A : Rat) + (k : Rat) * b + (A : Rat) + b) * (3 / 10000000) := by
    rw [Rat.intCast_add, Rat.intCast_natCast, Rat.natCast_add, ← hb, show ((1 : Nat) : Rat) = 1 from rfl]; grind
  rw [e1, e2]
  have hkb : 0 ≤ (k : Rat) * b := Rat.mul_nonneg hk0 hb0
  have e3 : y - ((X : Rat) * Go.Fl.two (-27) + (C : Rat) * Go.Fl.two (-27) * (L : Rat)) = (y - (x + p)) + ((x - (X : Rat) * Go.Fl.two (-27)) + (p - (C : Rat) * Go.Fl.two (-27) * (L : Rat))) := by grind
  rw [e3]
  exact (y3.add (he.add p3)).mono (by grind)
theorem AI_le (h : Wh xs ks) : ∀ k, AI (Lk ks) k ≤ 8 * (k : Int)
  | 0 => by show (0 : Int) ≤ 8 * 0; decide
  | k + 1 => by
    have ih := AI_le h k
    have h2 : (Lk ks k).natAbs ≤ 8 := by
      unfold Lk
      rw [List.getD_eq_getElem?_getD]
      cases hk : ks[k]? with
      | none => decide
      | some y => have := h.2 y (List.mem_of_getElem? hk); simp; omega
    show AI (Lk ks) k + ((Lk ks k).natAbs : Int) ≤ _
    omega
theorem sp_rv (h : Wh xs ks) (h1 : 1 ≤ xs.length) (h2 : xs.length ≤ 16) (m : Nat) : ∀ k, k ≤ xs.length →
    (∃ x, Rv .f32 (spRe xs m k) x ∧ Wi (x - (XI xs.length (Lk ks) m k : Rat) * Go.Fl.two (-27)) ((k : Rat) * (AI (Lk ks) k : Rat) * (3 / 10000000))) ∧
    (∃ y, Rv .f32 (spIm xs m k) y ∧ Wi (y - (YI xs.length (Lk ks) m k : Rat) * Go.Fl.two (-27)) ((k : Rat) * (AI (Lk ks) k : Rat) * (3 / 10000000)))
  | 0, _ => ⟨⟨0, rv_zero _, by unfold XI AI sumI Wi; simp; grind⟩, ⟨0, rv_zero _, by unfold YI AI sumI Wi; simp; grind⟩⟩
  | k + 1, hk => by
    obtain ⟨⟨x, x1, x2⟩, ⟨y, y1, y2⟩⟩ := sp_rv h h1 h2 m k (by omega)
    obtain ⟨l, hl, -, hr, k1, k2⟩ := h.rv (show k < xs.length by omega)
    have hx : xs.getD k 0 = xs[k] := by rw [List.getD_eq_getElem?_getD, List.getElem?_eq_getElem (show k < xs.length by omega)]; rfl
    have hL : Lk ks k = l := by unfold Lk; rw [List.getD_eq_getElem?_getD, hl]; rfl
    rw [← hx, ← hL] at hr
    rw [← hL] at k1 k2
    obtain ⟨p1, p2, p3, p4⟩ := ph_rv h1 h2 m k
    have hA := AI_nonneg (Lk ks) k
    have hA2 := AI_le h k
    have hA3 : AI (Lk ks) k ≤ 1000 := by omega
    have hL8 : (Lk ks k).natAbs ≤ 8 := by omega
    exact ⟨sp_step (C' := 0) (by omega) x1 p1 hr p3 hA hA3 hL8 (XI_le h2 h1 k) x2, sp_step (C' := 0) (by omega) y1 p2 hr p4 hA hA3 hL8 (YI_le h2 h1 k) y2⟩
/-- The powers of one place. -/
def p64 (c : Cx) : Nat := fa .add .f64 (fa .mul .f64 (widen c.1) (widen c.1)) (fa .mul .f64 (widen c.2) (widen c.2))
def pow32 (c : Cx) : Nat := narrow (p64 c)
/-- What the law asks at one place. -/
structure PlaceF (c : Cx) : Prop where
  re : ∃ q, Rv .f32 c.1 q
  im : ∃ q, Rv .f32 c.2 q
  m1 : ∃ q, Rv .f64 (fa .mul .f64 (widen c.1) (widen c.1)) q
  m2 : ∃ q, Rv .f64 (fa .mul .f64 (widen c.2) (widen c.2)) q
  p : ∃ q, Rv .f64 (p64 c) q ∧ q < Go.Fl.two 127 ∧ -q < Go.Fl.two 127
  w : ∃ q, Rv .f32 (pow32 c) q
  g : ∃ a b e : Rat, Rv .f64 (widen (pow32 c)) a ∧ Rv .f64 (p64 c) b ∧ Wi (a - b) e ∧ e < 1000000000000000000
  s1 : ∃ q, Rv .f64 (fa .add .f64 4607182418800017408 (fa .mul .f64 (widen c.1) (widen c.1))) q
  s2 : ∃ q, Rv .f64 (fa .add .f64 (fa .add .f64 4607182418800017408 (fa .mul .f64 (widen c.1) (widen c.1))) (fa .mul .f64 (widen c.2) (widen c.2))) q
  t : ∃ q, Rv .f64 (fa .mul .f64 4562254508917369340 (fa .add .f64 (fa .add .f64 4607182418800017408 (fa .mul .f64 (widen c.1) (widen c.1))) (fa .mul .f64 (widen c.2) (widen c.2)))) q
  lt : FloatKind.f64.format.order (gap (widen (pow32 c)) (p64 c)) (fa .mul .f64 4562254508917369340 (fa .add .f64 (fa .add .f64 4607182418800017408 (fa .mul .f64 (widen c.1) (widen c.1))) (fa .mul .f64 (widen c.2) (widen c.2)))) = some .lt
theorem sq_nonneg (x : Rat) : 0 ≤ x * x := by
  by_cases h : 0 ≤ x
  · exact Rat.mul_nonneg h h
  · have := Rat.mul_nonneg (show 0 ≤ -x by grind) (show 0 ≤ -x by grind)
    grind
theorem place_of {c : Cx} {x y : Rat} (hx : Rv .f32 c.1 x) (hy : Rv .f32 c.2 y) (h1 : Wi x 130) (h2 : Wi y 130) :
    PlaceF c ∧ ∃ V, Rv .f32 (pow32 c) V ∧ 0 ≤ V ∧ V ≤ 40000 ∧ Wi (V - (x * x + y * y)) ((x * x + y * y) * (13 / 100000000) + 1 / 10000000000) := by
  have e64 := ep64
  have t64 := et64
  have e32 := ep32
  have t32 := et32
  have x0 := sq_nonneg x
  have y0 := sq_nonneg y
  have hxx := h1.mul h1
  have hyy := h2.mul h2
  obtain ⟨a, a1, a2⟩ := mul_w (widen_q hx) (widen_q hx) hxx (by decide +kernel)
  obtain ⟨b, b1, b2⟩ := mul_w (widen_q hy) (widen_q hy) hyy (by decide +kernel)
  have a3 : Wi (a - x * x) (1 / 100000000000) := (a2.wi hxx).mono (by rw [e64]; grind)
  have b3 : Wi (b - y * y) (1 / 100000000000) := (b2.wi hyy).mono (by rw [e64]; grind)
  have a0 := a2.pos x0
  have b0 := b2.pos y0
  generalize hX : x * x = X at *
  generalize hY : y * y = Y at *
  have hX16 : X ≤ 16900 := by unfold Wi at hxx; grind
  have hY16 : Y ≤ 16900 := by unfold Wi at hyy; grind
  have hs : Wi (a + b) 33801 := by unfold Wi at *; grind
  obtain ⟨p, p1, p2⟩ := add_w a1 b1 hs (by decide +kernel)
  have p3 : Wi (p - (a + b)) (1 / 100000000000) := (p2.wi hs).mono (by rw [e64]; grind)
  have p0 := p2.pos (by grind)
  have hbig := n127_big
  have p5 : p ≤ 33802 := by unfold Wi at *; grind
  obtain ⟨hf, V, v1, v2⟩ := narrow_q p1 (by grind) (by grind)
  have v3 := v2.wi (b := p) (by unfold Wi; grind)
  have v0 := v2.pos p0
  have v4 : Wi (V - p) (p * (12 / 100000000) + 1 / 100000000000) := v3.mono (by rw [e32]; grind)
  have hv : Wi (V - (X + Y)) ((X + Y) * (13 / 100000000) + 1 / 10000000000) := by unfold Wi at *; grind
  have hs1w : Wi (1 + a) 33803 := by unfold Wi at *; grind
  obtain ⟨s1, s11, s12⟩ := add_w one64 a1 hs1w (by decide +kernel)
  have s13 : Wi (s1 - (1 + a)) (1 / 100000000000) := (s12.wi hs1w).mono (by rw [e64]; grind)
  have hs2w : Wi (s1 + b) 70000 := by unfold Wi at *; grind
  obtain ⟨s2, s21, s22⟩ := add_w s11 b1 hs2w (by decide +kernel)
  have s23 : Wi (s2 - (s1 + b)) (1 / 10000000000) := (s22.wi hs2w).mono (by rw [e64]; grind)
  obtain ⟨C, hC, c0, c1⟩ := c001
  have hCw : Wi C (1 / 100) := by unfold Wi; grind
  have hs2b : Wi s2 70001 := by unfold Wi at *; grind
  have htw := hCw.mul hs2b
  obtain ⟨t, t1, t2⟩ := mul_w hC s21 htw (by decide +kernel)
  have t3 : Wi (t - C * s2) (1 / 10000000000) := (t2.wi htw).mono (by rw [e64]; grind)
  have hge : (999 / 1000000) * s2 ≤ C * s2 := Rat.mul_le_mul_of_nonneg_right c0 (by unfold Wi at *; grind)
  have hgw : Wi (V - p) (5 / 1000) := v4.mono (by grind)
  replace p1 : Rv .f64 (p64 c) p := p1
  replace v1 : Rv .f32 (pow32 c) V := v1
  obtain ⟨g, g1, g2, g3⟩ := gap_q (widen_q v1) p1 v4 (by grind)
  refine ⟨⟨⟨x, hx⟩, ⟨y, hy⟩, ⟨a, a1⟩, ⟨b, b1⟩, ⟨p, p1, by grind, by grind⟩, ⟨V, v1⟩, ⟨V, p, _, widen_q v1, p1, hgw, by decide +kernel⟩, ⟨s1, s11⟩, ⟨s2, s21⟩, ⟨t, t1⟩, ?_⟩, V, v1, v0, by unfold Wi at *; grind, hv⟩
  rw [order_q g1 t1, if_pos]
  rw [e64] at g3
  unfold Wi at *
  grind
/-- The sums that the law takes. -/
def powAcc (xs : List Nat) : Nat → Nat
  | 0 => 0
  | m + 1 => fa .add .f64 (powAcc xs m) (widen (pow32 (specAt xs m)))
def sqW (xs : List Nat) : Nat → Nat
  | 0 => 0
  | m + 1 => fa .add .f64 (sqW xs m) (fa .mul .f64 (widen (xs.getD m 0)) (widen (xs.getD m 0)))
def QT (L : Nat → Int) (k : Nat) : Int := sumI k fun j => L j * L j
theorem Lk_le (h : Wh xs ks) (k : Nat) : (Lk ks k).natAbs ≤ 8 := by
  unfold Lk
  rw [List.getD_eq_getElem?_getD]
  cases hk : ks[k]? with
  | none => decide
  | some y => have := h.2 y (List.mem_of_getElem? hk); simp; omega
theorem load_rv (h : Wh xs ks) {k : Nat} (hk : k < xs.length) : Rv .f32 (xs.getD k 0) ((Lk ks k : Int) : Rat) := by
  obtain ⟨l, hl, -, hr, -⟩ := h.rv hk
  have hx : xs.getD k 0 = xs[k] := by rw [List.getD_eq_getElem?_getD, List.getElem?_eq_getElem hk]; rfl
  have hL : Lk ks k = l := by unfold Lk; rw [List.getD_eq_getElem?_getD, hl]; rfl
  rw [hx, hL]; exact hr
theorem sqW_rv (h : Wh xs ks) (h2 : xs.length ≤ 16) : ∀ k, k ≤ xs.length → Rv .f64 (sqW xs k) ((QT (Lk ks) k : Int) : Rat) ∧ 0 ≤ QT (Lk ks) k ∧ QT (Lk ks) k ≤ 64 * (k : Int)
  | 0, _ => ⟨rv_zero' .f64, Int.le_refl _, by show (0 : Int) ≤ 64 * 0; decide⟩
  | k + 1, hk => by
    obtain ⟨q1, q2, q3⟩ := sqW_rv h h2 k (by omega)
    have hl := load_rv h (show k < xs.length by omega)
    have h8 := Lk_le h k
    have hsq : Lk ks k * Lk ks k ≤ 8 * 8 ∧ 0 ≤ Lk ks k * Lk ks k := ⟨by
      have := abs_mul_le (a := Lk ks k) (b := Lk ks k) (c := 8) (d := 8) (by omega) (by omega)
      omega, sq_pos _⟩
    have hm := mul_int (widen_q hl) (widen_q hl) (by show _ < 2 ^ 53; omega)
    have e : QT (Lk ks) (k + 1) = QT (Lk ks) k + Lk ks k * Lk ks k := rfl
    rw [e]
    exact ⟨add_int q1 hm (by show _ < 2 ^ 53; omega), by omega, by push_cast; omega⟩
theorem spec_wi (h : Wh xs ks) (h1 : 1 ≤ xs.length) (h2 : xs.length ≤ 16) (m : Nat) : ∃ x y, Rv .f32 (specAt xs m).1 x ∧ Rv .f32 (specAt xs m).2 y ∧ Wi x 130 ∧ Wi y 130 ∧
    Wi (x * x - (XI xs.length (Lk ks) m xs.length : Rat) * Go.Fl.two (-27) * ((XI xs.length (Lk ks) m xs.length : Rat) * Go.Fl.two (-27))) ((AI (Lk ks) xs.length : Rat) * (AI (Lk ks) xs.length : Rat) * (1 / 100000)) ∧
    Wi (y * y - (YI xs.length (Lk ks) m xs.length : Rat) * Go.Fl.two (-27) * ((YI xs.length (Lk ks) m xs.length : Rat) * Go.Fl.two (-27))) ((AI (Lk ks) xs.length : Rat) * (AI (Lk ks) xs.length : Rat) * (1 / 100000)) := by
  obtain ⟨⟨x, x1, x2⟩, ⟨y, y1, y2⟩⟩ := sp_rv h h1 h2 m xs.length (Nat.le_refl _)
  have hX := XI_le (L := Lk ks) h2 (m := m) h1 xs.length
  have hY := YI_le (L := Lk ks) h2 (m := m) h1 xs.length
  have hA := AI_le h xs.length
  have hA0 := AI_nonneg (Lk ks) xs.length
  have hn16 : (xs.length : Rat) ≤ 16 := by
    have : ((xs.length : Nat) : Rat) ≤ ((16 : Nat) : Rat) := Rat.natCast_le_natCast.2 h2
    exact this
  have t2 := two_pos (-27)
  have t3 := two27
  have scaled : ∀ Z : Int, (Z.natAbs : Int) ≤ 2 ^ 27 * AI (Lk ks) xs.length → Wi ((Z : Rat) * Go.Fl.two (-27)) (AI (Lk ks) xs.length : Rat) := by
    intro Z hZ
    have h5 := natAbs_rat Z
    have h6 : ((Z.natAbs : Nat) : Rat) ≤ 134217728 * (AI (Lk ks) xs.length : Rat) := by
      have : (((Z.natAbs : Nat) : Int) : Rat) ≤ ((2 ^ 27 * AI (Lk ks) xs.length : Int) : Rat) := Rat.intCast_le_intCast.2 hZ
      rw [Rat.intCast_natCast, Rat.intCast_mul] at this
      have e : ((2 ^ 27 : Int) : Rat) = 134217728 := by decide +kernel
      rwa [e] at this
    have h7 := (h5.mono h6).mul (Wi.self (Rat.le_of_lt t2))
    refine h7.mono ?_
    grind
  have sX := scaled _ hX
  have sY := scaled _ hY
  have a0 : (0 : Rat) ≤ (AI (Lk ks) xs.length : Rat) := by
    have : ((0 : Int) : Rat) ≤ (AI (Lk ks) xs.length : Rat) := Rat.intCast_le_intCast.2 hA0
    simpa using this
  have a1 : (AI (Lk ks) xs.length : Rat) ≤ 128 := by
    have : (AI (Lk ks) xs.length : Rat) ≤ ((128 : Int) : Rat) := Rat.intCast_le_intCast.2 (by omega)
    simpa using this
  have hnA : (xs.length : Rat) * (AI (Lk ks) xs.length : Rat) ≤ 16 * (AI (Lk ks) xs.length : Rat) := Rat.mul_le_mul_of_nonneg_right hn16 a0
  generalize (XI xs.length (Lk ks) m xs.length : Rat) * Go.Fl.two (-27) = X at *
  generalize (YI xs.length (Lk ks) m xs.length : Rat) * Go.Fl.two (-27) = Y at *
  generalize (AI (Lk ks) xs.length : Rat) = A at *
  have x3 : Wi (x - X) (A * (48 / 10000000)) := x2.mono (by grind)
  have y3 : Wi (y - Y) (A * (48 / 10000000)) := y2.mono (by grind)
  have xw : Wi x (A * (1001 / 1000)) := by unfold Wi at *; grind
  have yw : Wi y (A * (1001 / 1000)) := by unfold Wi at *; grind
  have AA := Rat.mul_nonneg a0 a0
  refine ⟨x, y, x1, y1, xw.mono (by grind), yw.mono (by grind), ?_, ?_⟩
  · exact (Wi.squares x3 xw sX).mono (by grind)
  · exact (Wi.squares y3 yw sY).mono (by grind)
theorem powAcc_rv (h : Wh xs ks) (h1 : 1 ≤ xs.length) (h2 : xs.length ≤ 16) : ∀ m, m ≤ xs.length → ∃ V U : Rat, Rv .f64 (powAcc xs m) V ∧ 0 ≤ U ∧ 0 ≤ V ∧ V ≤ (m : Rat) * 40001 ∧ Wi (V - U) (U * (13 / 100000000) + (m : Rat) * (1 / 1000000000)) ∧
    Wi (U - (TI xs.length (Lk ks) m : Rat) * (Go.Fl.two (-27) * Go.Fl.two (-27))) ((m : Rat) * ((AI (Lk ks) xs.length : Rat) * (AI (Lk ks) xs.length : Rat) * (2 / 100000)))
  | 0, _ => ⟨0, 0, rv_zero _, Rat.le_refl, Rat.le_refl, by simp, by unfold Wi; simp; grind, by unfold TI sumI Wi; simp; grind⟩
  | m + 1, hm => by
    have e64 := ep64
    have t64 := et64
    obtain ⟨V, U, v1, u0, v0, v2, v3, v4⟩ := powAcc_rv h h1 h2 m (by omega)
    obtain ⟨x, y, x1, y1, x2, y2, x3, y3⟩ := spec_wi h h1 h2 m
    obtain ⟨-, P, p1, p0, p2, p3⟩ := place_of x1 y1 x2 y2
    have hm16 : (m : Rat) ≤ 16 := by
      have : ((m : Nat) : Rat) ≤ ((16 : Nat) : Rat) := Rat.natCast_le_natCast.2 (by omega)
      exact this
    have hm0 : (0 : Rat) ≤ (m : Rat) := Rat.natCast_nonneg
    have hs : Wi (V + P) 700000 := by unfold Wi; grind
    obtain ⟨W, w1, w2⟩ := add_w v1 (widen_q p1) hs (by decide +kernel)
    have w3 : Wi (W - (V + P)) (1 / 2000000000) := (w2.wi hs).mono (by rw [e64]; grind)
    have hx0 := sq_nonneg x
    have hy0 := sq_nonneg y
    have eT : ((TI xs.length (Lk ks) (m + 1) : Int) : Rat) * (Go.Fl.two (-27) * Go.Fl.two (-27)) = (TI xs.length (Lk ks) m : Rat) * (Go.Fl.two (-27) * Go.Fl.two (-27)) + ((XI xs.length (Lk ks) m xs.length : Rat) * Go.Fl.two (-27) * ((XI xs.length (Lk ks) m xs.length : Rat) * Go.Fl.two (-27)) + (YI xs.length (Lk ks) m xs.length : Rat) * Go.Fl.two (-27) * ((YI xs.length (Lk ks) m xs.length : Rat) * Go.Fl.two (-27))) := by
      have e : TI xs.length (Lk ks) (m + 1) = TI xs.length (Lk ks) m + (XI xs.length (Lk ks) m xs.length * XI xs.length (Lk ks) m xs.length + YI xs.length (Lk ks) m xs.length * YI xs.length (Lk ks) m xs.length) := rfl
      rw [e, Rat.intCast_add, Rat.intCast_add, Rat.intCast_mul, Rat.intCast_mul]
      grind
    refine ⟨W, U + (x * x + y * y), w1, by grind, w2.pos (by grind), ?_, ?_, ?_⟩
    · rw [Rat.natCast_add, show ((1 : Nat) : Rat) = 1 from rfl]
      unfold Wi at w3; grind
    · rw [Rat.natCast_add, show ((1 : Nat) : Rat) = 1 from rfl]
      generalize x * x + y * y = s at *
      unfold Wi at *; grind
    · rw [eT, Rat.natCast_add, show ((1 : Nat) : Rat) = 1 from rfl]
      generalize (XI xs.length (Lk ks) m xs.length : Rat) * Go.Fl.two (-27) * ((XI xs.length (Lk ks) m xs.length : Rat) * Go.Fl.two (-27)) = XX at *
      generalize (YI xs.length (Lk ks) m xs.length : Rat) * Go.Fl.two (-27) * ((YI xs.length (Lk ks) m xs.length : Rat) * Go.Fl.two (-27)) = YY at *
      generalize x * x = xx at *
      generalize y * y = yy at *
      unfold Wi at *; grind
theorem thr_rv3 {c x : Nat} {C X : Rat} (hc : Rv .f64 c C) (hx : Rv .f64 x X) (c0 : 1 / 10000 ≤ C) (c1 : C ≤ 1) (x0 : 0 ≤ X) (x1 : X ≤ 10000000) : ∃ s t, Rv .f64 (fa .add .f64 4607182418800017408 x) s ∧ Rv .f64 (thr c x) t ∧ C * (1 + X) * (9 / 10) ≤ t := by
  have h1 : Wi (1 + X) 10000001 := by unfold Wi; grind
  obtain ⟨s, g1, g2⟩ := add_w one64 hx h1 (by decide +kernel)
  have g3 : Wi (s - (1 + X)) (1 / 1000000) := (g2.wi h1).mono (by rw [ep64]; have := et64; grind)
  have s0 : (1 + X) * (99 / 100) ≤ s := by unfold Wi at g3; grind
  have s1 : s ≤ 10000002 := by unfold Wi at g3; grind
  have hC : Wi C 1 := by unfold Wi; grind
  have h2 : Wi (C * s) (1 * 10000002) := hC.mul (by unfold Wi; grind)
  obtain ⟨t, g4, g5⟩ := mul_w hc g1 h2 (by decide +kernel)
  refine ⟨s, t, g1, g4, ?_⟩
  have c00 : 0 ≤ C := by grind
  have k1 := Rat.mul_le_mul_of_nonneg_left s0 c00
  have k0 : C * 1 ≤ C * (1 + X) := Rat.mul_le_mul_of_nonneg_left (by grind) c00
  have k4 : 0 ≤ C * s := by grind
  have k3 := g5.lo (C * s) Rat.le_refl (by grind)
  rw [ep64] at k3
  have := et64
  grind
theorem Test.of3 {x y c z : Nat} {a b e C Z : Rat} (hx : Rv .f64 x a) (hy : Rv .f64 y b) (hw : Wi (a - b) e) (he : e ≤ 1000000) (hc : Rv .f64 c C) (hz : Rv .f64 z Z) (c0 : 1 / 10000 ≤ C) (c1 : C ≤ 1) (z0 : 0 ≤ Z) (z1 : Z ≤ 10000000) (hlt : e * (11 / 10) + 1 / 1000000 < C * (1 + Z) * (9 / 10)) : Test x y c z := by
  obtain ⟨s, t, g1, g2, g3⟩ := thr_rv3 hc hz c0 c1 z0 z1
  obtain ⟨g, g4, g5, g6⟩ := gap_q hx hy hw (by grind)
  refine ⟨⟨a, b, e, hx, hy, hw, by grind⟩, ⟨_, g1⟩, ⟨_, g2⟩, ?_⟩
  rw [order_q g4 g2, if_pos]
  have := et64
  have h0 := hw.nonneg
  rw [ep64] at g6
  grind
theorem zero_col : ∀ n : Fin 17, 1 ≤ n.val → CI n.val 0 = 2 ^ 27 ∧ SI n.val 0 = 0 := by decide +kernel
theorem col0 {n : Nat} (h1 : 1 ≤ n) (h2 : n ≤ 16) (L : Nat → Int) (k : Nat) : XI n L 0 k = 2 ^ 27 * sumI k L ∧ YI n L 0 k = 0 := by
  have hr : ∀ j, rOf n 0 j = 0 := fun j => by unfold rOf; simp
  have hz := zero_col ⟨n, by omega⟩ h1
  simp only [] at hz
  unfold XI YI
  constructor
  · rw [← sumI_mulL]
    refine sumI_congr fun j _ => ?_
    rw [hr, hz.1, Int.mul_comm]
  · rw [sumI_congr (g := fun _ => 0) (fun j _ => by rw [hr, hz.2, Int.mul_zero]), sumI_zero]
theorem sumTo_sumI (ks : List Int) : ∀ k, sumTo ks k = sumI k (Lk ks)
  | 0 => rfl
  | k + 1 => by
    show sumTo ks k + _ = sumI k (Lk ks) + _
    rw [sumTo_sumI ks k]; rfl
/-- The last three tests. -/
structure LastF (xs : List Nat) : Prop where
  g1 : ∃ a b e : Rat, Rv .f64 (widen (specAt xs 0).1) a ∧ Rv .f64 (ssum xs xs.length) b ∧ Wi (a - b) e ∧ e < 1000000000000000000
  o1 : FloatKind.f64.format.order (gap (widen (specAt xs 0).1) (ssum xs xs.length)) 4562254508917369340 = some .lt
  g2 : ∃ a b e : Rat, Rv .f64 (widen (specAt xs 0).2) a ∧ Rv .f64 0 b ∧ Wi (a - b) e ∧ e < 1000000000000000000
  o2 : FloatKind.f64.format.order (gap (widen (specAt xs 0).2) 0) 4562254508917369340 = some .lt
  m : ∃ q, Rv .f64 (fa .mul .f64 (floatOfInt .f64 (xs.length : Int)) (sqW xs xs.length)) q
  t : Test (powAcc xs xs.length) (fa .mul .f64 (floatOfInt .f64 (xs.length : Int)) (sqW xs xs.length)) 4562254508917369340 (fa .mul .f64 (floatOfInt .f64 (xs.length : Int)) (sqW xs xs.length))
theorem lastF (h : Wh xs ks) (h1 : 1 ≤ xs.length) (h2 : xs.length ≤ 16) : LastF xs := by
  have e64 := ep64
  have t64 := et64
  obtain ⟨⟨x, x1, x2⟩, ⟨y, y1, y2⟩⟩ := sp_rv h h1 h2 0 xs.length (Nat.le_refl _)
  obtain ⟨c1, c2⟩ := col0 h1 h2 (Lk ks) xs.length
  rw [c1] at x2
  rw [c2] at y2
  have hs := ssum_rv h h2 xs.length (Nat.le_refl _)
  rw [sumTo_sumI] at hs
  have hA := AI_le h xs.length
  have hA0 := AI_nonneg (Lk ks) xs.length
  have t2 := two_pos (-27)
  have t3 := two27
  have hn16 : (xs.length : Rat) ≤ 16 := by
    have : ((xs.length : Nat) : Rat) ≤ ((16 : Nat) : Rat) := Rat.natCast_le_natCast.2 h2
    exact this
  have hn0 : (0 : Rat) ≤ (xs.length : Rat) := Rat.natCast_nonneg
  have a0 : (0 : Rat) ≤ (AI (Lk ks) xs.length : Rat) := by
    have : ((0 : Int) : Rat) ≤ (AI (Lk ks) xs.length : Rat) := Rat.intCast_le_intCast.2 hA0
    simpa using this
  have a1 : (AI (Lk ks) xs.length : Rat) ≤ 128 := by
    have : (AI (Lk ks) xs.length : Rat) ≤ ((128 : Int) : Rat) := Rat.intCast_le_intCast.2 (by omega)
    simpa using this
  have hnA : (xs.length : Rat) * (AI (Lk ks) xs.length : Rat) ≤ 16 * (AI (Lk ks) xs.length : Rat) := Rat.mul_le_mul_of_nonneg_right hn16 a0
  obtain ⟨C, hC, k0, k1⟩ := c001
  -- the sum
  have eS : ((2 ^ 27 * sumI xs.length (Lk ks) : Int) : Rat) * Go.Fl.two (-27) = ((sumI xs.length (Lk ks) : Int) : Rat) := by
    rw [Rat.intCast_mul, show ((2 ^ 27 : Int) : Rat) = 134217728 by decide +kernel]
    grind
  rw [eS] at x2
  have x3 : Wi (x - ((sumI xs.length (Lk ks) : Int) : Rat)) (63 / 100000) := x2.mono (by grind)
  have y3 : Wi (y - 0) (63 / 100000) := by
    have : y - ((0 : Int) : Rat) * Go.Fl.two (-27) = y - 0 := by
      rw [show ((0 : Int) : Rat) = 0 from rfl]; grind
    rw [this] at y2
    exact y2.mono (by grind)
  obtain ⟨g, g1, g2, g3⟩ := gap_q (widen_q x1) hs x3 (by decide +kernel)
  obtain ⟨g', g4, g5, g6⟩ := gap_q (widen_q y1) (rv_zero .f64) y3 (by decide +kernel)
  -- the powers
  obtain ⟨V, U, v1, u0, v0, v2, v3, v4⟩ := powAcc_rv h h1 h2 xs.length (Nat.le_refl _)
  obtain ⟨q1, q2, q3⟩ := sqW_rv h h2 xs.length (Nat.le_refl _)
  have hni := ofInt_q .f64 (xs.length : Int) (by show _ < 2 ^ 53; omega)
  have hnq : (xs.length : Int) * QT (Lk ks) xs.length ≤ 16 * 1024 := Int.mul_le_mul (by omega) (by omega) q2 (by omega)
  have hnq0 : 0 ≤ (xs.length : Int) * QT (Lk ks) xs.length := Int.mul_nonneg (by omega) q2
  have hm := mul_int hni q1 (by show _ < 2 ^ 53; omega)
  have hp := parseval (L := Lk ks) h2 h1
  have hsq := AI_sq xs.length (Lk ks)
  have eQ : QI xs.length (Lk ks) = QT (Lk ks) xs.length := rfl
  rw [eQ] at hp hsq
  obtain ⟨N, hN⟩ : ∃ N : Int, N = (xs.length : Int) * QT (Lk ks) xs.length := ⟨_, rfl⟩
  rw [← hN] at hp hsq hnq hnq0 hm
  have hpw : Wi ((TI xs.length (Lk ks) xs.length : Rat) - 18014398509481984 * (N : Rat)) (34359738368 * ((AI (Lk ks) xs.length : Rat) * (AI (Lk ks) xs.length : Rat))) := by
    have h5 := natAbs_rat (TI xs.length (Lk ks) xs.length - 2 ^ 54 * N)
    have h6 : (((TI xs.length (Lk ks) xs.length - 2 ^ 54 * N).natAbs : Nat) : Rat) ≤ 34359738368 * ((AI (Lk ks) xs.length : Rat) * (AI (Lk ks) xs.length : Rat)) := by
      have : ((((TI xs.length (Lk ks) xs.length - 2 ^ 54 * N).natAbs : Nat) : Int) : Rat) ≤ ((2 ^ 35 * (AI (Lk ks) xs.length * AI (Lk ks) xs.length) : Int) : Rat) := Rat.intCast_le_intCast.2 hp
      rw [Rat.intCast_natCast, Rat.intCast_mul, Rat.intCast_mul] at this
      rwa [show ((2 ^ 35 : Int) : Rat) = 34359738368 by decide +kernel] at this
    have h7 := h5.mono h6
    rw [Rat.intCast_sub, Rat.intCast_mul, show ((2 ^ 54 : Int) : Rat) = 18014398509481984 by decide +kernel] at h7
    exact h7
  have hAN : (AI (Lk ks) xs.length : Rat) * (AI (Lk ks) xs.length : Rat) ≤ (N : Rat) := by
    have : ((AI (Lk ks) xs.length * AI (Lk ks) xs.length : Int) : Rat) ≤ (N : Rat) := Rat.intCast_le_intCast.2 hsq
    rwa [Rat.intCast_mul] at this
  have hN0 : (0 : Rat) ≤ (N : Rat) := by
    have : ((0 : Int) : Rat) ≤ (N : Rat) := Rat.intCast_le_intCast.2 hnq0
    simpa using this
  have hN1 : (N : Rat) ≤ 16384 := by
    have : (N : Rat) ≤ ((16384 : Int) : Rat) := Rat.intCast_le_intCast.2 (by omega)
    simpa using this
  have t4 : Go.Fl.two (-27) * Go.Fl.two (-27) = 1 / 18014398509481984 := by decide +kernel
  rw [t4] at v4
  have AA := Rat.mul_nonneg a0 a0
  have hnAA : (xs.length : Rat) * ((AI (Lk ks) xs.length : Rat) * (AI (Lk ks) xs.length : Rat) * (2 / 100000)) ≤ 16 * ((AI (Lk ks) xs.length : Rat) * (AI (Lk ks) xs.length : Rat) * (2 / 100000)) := Rat.mul_le_mul_of_nonneg_right hn16 (by grind)
  generalize (AI (Lk ks) xs.length : Rat) * (AI (Lk ks) xs.length : Rat) = A2 at *
  generalize (TI xs.length (Lk ks) xs.length : Rat) = T at *
  have hUN : Wi (U - (N : Rat)) (A2 * (33 / 100000)) := by unfold Wi at *; grind
  have hVN : Wi (V - (N : Rat)) ((N : Rat) * (34 / 100000) + 1 / 10000000) := by unfold Wi at *; grind
  have hck : (999 / 1000000) * (1 + (N : Rat)) ≤ C * (1 + (N : Rat)) := Rat.mul_le_mul_of_nonneg_right k0 (by grind)
  refine ⟨⟨x, _, _, widen_q x1, hs, x3, by decide +kernel⟩, ?_, ⟨y, 0, _, widen_q y1, rv_zero .f64, y3, by decide +kernel⟩, ?_, ⟨_, hm⟩, Test.of3 v1 hm hVN (by grind) hC hm (by grind) (by grind) hN0 (by grind) (by grind)⟩
  · show FloatKind.f64.format.order (gap (widen (spRe xs 0 xs.length)) _) _ = _
    rw [order_q g1 hC, if_pos]
    rw [e64] at g3
    grind
  · show FloatKind.f64.format.order (gap (widen (spIm xs 0 xs.length)) _) _ = _
    rw [order_q g4 hC, if_pos]
    rw [e64] at g6
    grind
end
end Go.Proofs.Ytmpmnhnobgidoaa
