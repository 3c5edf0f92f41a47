/- Floats: square roots and narrowing. -/
import Derived.Test.YtmpmnhnobgidoaaR
import Derived.Laws.Externs
namespace Go.Fl
set_option linter.unusedSimpArgs false
set_option linter.unusedVariables false
open Go Go.RowKit

/-- the square root with one NaN -/
def rt (k : FloatKind) (x : Nat) : Nat := (k.format.sqrt x).getD (qn k)
theorem sqrt_notNaN {k : FloatKind} {x r : Nat} (h : k.format.sqrt x = some r) : isNan k r = false := by
  unfold Ieee.Format.sqrt at h
  obtain ⟨d, hd, rfl⟩ := Option.map_eq_some_iff.1 h
  exact write_notNaN _ (root_notNaN hd)
theorem sqrt_nan {k : FloatKind} {x : Nat} (h : isNan k x = true) : k.format.sqrt x = none := by
  unfold isNan at h
  unfold Ieee.Format.sqrt
  cases hx : k.format.read x <;> simp_all [Ieee.Datum.isNaN, Ieee.Datum.root]
theorem cn_rt (k : FloatKind) (x : Nat) : cn k (rt k x) = rt k x := by
  unfold rt
  cases h : k.format.sqrt x with
  | none => exact cn_of_nan (isNan_qn k)
  | some r => exact cn_of_not (sqrt_notNaN h)
theorem rt_cn (k : FloatKind) (x : Nat) : rt k (cn k x) = rt k x := by
  by_cases h : isNan k x = true
  · unfold rt; rw [sqrt_nan h, sqrt_nan (by rw [isNan_cn]; exact h)]
  · rw [cn_of_not (by simpa using h)]
theorem run_sqrt {P : Program} (w : World) (x : Nat) :
    ∃ r n, (Extern.MathSqrt.sqrt #[.float .f64 x]).run P w = .ok (.float .f64 r) (w.drewN n) ∧ cn .f64 r = rt .f64 x := by
  have e : Extern.MathSqrt.sqrt #[.float .f64 x] = (match FloatKind.f64.format.sqrt x with
    | some r => pure (.float .f64 r)
    | none => do pure (.float .f64 (← choose (.nanBits .f64 x x)))) := rfl
  cases h : FloatKind.f64.format.sqrt x with
  | some r =>
    refine ⟨r, 0, ?_, by rw [cn_of_not (sqrt_notNaN h)]; simp [rt, h]⟩
    rw [e, h]; simp [World.drewN_zero]
  | none =>
    refine ⟨(Question.nanBits .f64 x x).cut (w.tape w.drawn (.nanBits .f64 x x)), 1, ?_, ?_⟩
    · rw [e, h]; simp [choose, Sem.run, Question.forced, World.drewN]
    · rw [cn_of_nan (nanBits_cut .f64 x x _)]; simp [rt, h]

/-! ### Narrowing -/
/-- The place of a number's first digit, 0 for none: no number is 2 to the power of this, or more. -/
def below2 (k : FloatKind) (x : Nat) (t : Int) : Prop := ∀ s m e, k.format.read x = .number s m e → m = 0 ∨ e + (m.log2 : Int) < t
/-- 'float32(x)' -/
def narrow (x : Nat) : Nat := match FloatKind.f64.decode x with
  | .nan _ _ => qn .f32
  | d => FloatKind.f32.encode d
/-- A number that is not too great for a narrower kind. -/
def fits (x : Nat) : Prop := ∀ s m e, FloatKind.f64.decode x = .number s m e → (FloatKind.f32.decode (FloatKind.f32.encode (.number s m e))).isInfinity = false
theorem narrow_notNaN {x : Nat} (h : isNan .f64 x = false) : isNan .f32 (narrow x) = false := by
  unfold isNan at *
  unfold narrow
  change ((FloatKind.f64.decode x).isNaN) = false at h
  cases hx : FloatKind.f64.decode x <;> rw [hx] at h
  · exact write_notNaN _ rfl
  · exact write_notNaN _ rfl
  · cases h
theorem narrow_nan {x : Nat} (h : isNan .f64 x = true) : narrow x = qn .f32 := by
  unfold isNan at h
  unfold narrow
  change ((FloatKind.f64.decode x).isNaN) = true at h
  cases hx : FloatKind.f64.decode x <;> rw [hx] at h <;> first | rfl | cases h
theorem cn_narrow (x : Nat) : cn .f32 (narrow x) = narrow x := by
  by_cases h : isNan .f64 x = true
  · rw [narrow_nan h, cn_of_nan (isNan_qn _)]
  · exact cn_of_not (narrow_notNaN (by simpa using h))
theorem narrow_congr {x y : Nat} (h : cn .f64 x = cn .f64 y) : narrow x = narrow y := by
  have h2 : isNan .f64 x = isNan .f64 y := by rw [← isNan_cn, h, isNan_cn]
  by_cases hx : isNan .f64 x = true
  · rw [narrow_nan hx, narrow_nan (by rw [← h2]; exact hx)]
  · have hx' : isNan .f64 x = false := by simpa using hx
    rw [cn_of_not hx', cn_of_not (by rw [← h2]; exact hx')] at h
    rw [h]
theorem narrow_cn (x : Nat) : narrow (cn .f64 x) = narrow x := narrow_congr (cn_cn _ _)
theorem isNumber_notNan {k : FloatKind} {x : Nat} {s : Bool} {m : Nat} {e : Int} (h : k.decode x = .number s m e) : isNan k x = false := by
  unfold isNan
  show (k.decode x).isNaN = false
  rw [h]; rfl
theorem fits_cn {x y : Nat} (h : cn .f64 x = cn .f64 y) (hf : fits x) : fits y := by
  intro s m e hy
  have h1 := isNumber_notNan hy
  have h2 : isNan .f64 x = false := by rw [← isNan_cn, h, isNan_cn]; exact h1
  rw [cn_of_not h1, cn_of_not h2] at h
  subst h
  exact hf s m e hy
theorem fits_nan {x : Nat} (h : isNan .f64 x = true) : fits x := by
  intro s m e hy
  rw [isNumber_notNan hy] at h
  cases h
theorem run_narrow {P : Program} (w : World) (src dst : TypeId) (x : Nat) (hs : (P.underlying src).isSome = true) (hd : P.underlying dst = some (.float .f32)) (hf : fits x) :
    ∃ r n, (convert src dst (.float .f64 x)).run P w = .ok (.float .f32 r) (w.drewN n) ∧ cn .f32 r = narrow x := by
  obtain ⟨u, hs'⟩ := Option.isSome_iff_exists.1 hs
  have hne : ¬ (FloatKind.f64 = FloatKind.f32) := by decide
  have h2 := cn_narrow x
  cases hx : FloatKind.f64.decode x with
  | number s m e =>
    have hi := hf s m e hx
    refine ⟨FloatKind.f32.encode (.number s m e), 0, ?_, ?_⟩
    · cases u <;> simp [convert, run_underlying hs', run_underlying hd, Conv.floatToFloat, hx, hi, hne, World.drewN_zero]
    · unfold narrow at h2 ⊢
      rw [hx] at h2 ⊢
      exact h2
  | infinity s =>
    refine ⟨FloatKind.f32.encode (.infinity s), 0, ?_, ?_⟩
    · cases u <;> simp [convert, run_underlying hs', run_underlying hd, Conv.floatToFloat, hx, hne, World.drewN_zero]
    · unfold narrow at h2 ⊢
      rw [hx] at h2 ⊢
      exact h2
  | nan s t =>
    refine ⟨(Question.nanConv .f32 x).cut (w.tape w.drawn (.nanConv .f32 x)), 1, ?_, ?_⟩
    · cases u <;> simp [convert, run_underlying hs', run_underlying hd, Conv.floatToFloat, hx, hne, choose, Sem.run, Question.forced, World.drewN]
    · rw [cn_of_nan (nanConv_cut .f32 x _)]
      unfold narrow
      rw [hx]

section
variable {P : Program} {ops : Array Oper} {rest : List Oper} {o : Oper} {a : Act} {w : World} {Q : Exit → Act → World → Prop}
/-- 'float32(x)', in a walk. -/
theorem wpList_narrow {src dst : TypeId} {x : Operand} {X : Nat} (ho : o.op = .convert src dst x) (hw : Region.wanted o (yielded ops a.tmps) = true)
    (hx : a.eval x = .float .f64 X) (hs : (P.underlying src).isSome = true) (hd : P.underlying dst = some (.float .f32)) {sx : Nat} (hX : Hid (cn .f64 X = sx)) (hf : Hid (fits sx))
    (h : ∀ r n, Hid (cn .f32 r = narrow sx) → wpList P ops Q rest (a.put o.dst (.float .f32 r)) (w.drewN n)) : wpList P ops Q (o :: rest) a w := by
  have hf' : fits X := fits_cn (x := sx) (by rw [← hX.out, cn_cn]) hf.out
  obtain ⟨r, n, hr, hc⟩ := run_narrow (P := P) w src dst X hs hd hf'
  refine wpList_step fun K hK => ?_
  rw [if_pos hw]
  unfold Oper.wp execOp
  simp only [ho, hx, Sem.run_bind, Sem.run_pure, hr, Result.andThen_ok]
  exact hK _ _ (h r n (by show _ = _; rw [hc, ← hX.out]; exact (narrow_cn _).symm))
theorem wpRq_narrow {R : FuncId → Array Value → Value → Prop} {Q : Act → Prop} {src dst : TypeId} {x : Operand} {X : Nat} (ho : o.op = .convert src dst x) (hw : Region.wanted o (yielded ops a.tmps) = true)
    (hx : a.eval x = .float .f64 X) (hs : (P.underlying src).isSome = true) (hd : P.underlying dst = some (.float .f32)) {sx : Nat} (hX : Hid (cn .f64 X = sx)) (hf : Hid (fits sx))
    (h : ∀ r, Hid (cn .f32 r = narrow sx) → wpRq P ops (fun w' => ∃ n, w' = w.drewN n) R Q rest (a.put o.dst (.float .f32 r))) : wpRq P ops (fun w' => ∃ n, w' = w.drewN n) R Q (o :: rest) a := by
  have hf' : fits X := fits_cn (x := sx) (by rw [← hX.out, cn_cn]) hf.out
  refine wpRq_rel (fun v => ∃ r, v = .float .f32 r ∧ cn .f32 r = narrow X) hw (fun n => ?_) (fun v hv => ?_)
  · obtain ⟨r, m, hr, hc⟩ := run_narrow (P := P) (w.drewN n) src dst X hs hd hf'
    refine ⟨.float .f32 r, n + m, ?_, r, rfl, hc⟩
    unfold execOp
    simp only [ho, hx, Sem.run_bind, Sem.run_pure, hr, Result.andThen_ok, World.drewN_drewN]
  · obtain ⟨r, rfl, hc⟩ := hv
    exact h r (by show _ = _; rw [hc, ← hX.out]; exact (narrow_cn _).symm)
end

/-! ### How great a rounded number is -/
theorem cut_le (way : Ieee.Toward) (neg : Bool) (n d K : Nat) (h : n < 2 ^ (K + d)) : way.cut neg n d ≤ 2 ^ K := by
  unfold Ieee.Toward.cut
  dsimp only
  have hb : ∀ b : Bool, b.toNat ≤ 1 := fun b => by cases b <;> decide
  by_cases hd : d ≤ n.log2 + 2
  · rw [Nat.min_eq_left hd, Nat.shiftLeft_eq, Nat.one_mul]
    have : n / 2 ^ d < 2 ^ K := by rw [Nat.div_lt_iff_lt_mul (Nat.two_pow_pos _), ← Nat.pow_add]; exact h
    refine Nat.le_trans (Nat.add_le_add_left (hb _) _) ?_
    omega
  · have hn : n / 2 ^ (n.log2 + 2) = 0 := by
      apply Nat.div_eq_of_lt
      refine Nat.lt_of_lt_of_le Nat.lt_log2_self (Nat.pow_le_pow_right (by decide) (by omega))
    rw [Nat.min_eq_right (by omega), Nat.shiftLeft_eq, Nat.one_mul, hn]
    have := Nat.two_pow_pos K
    refine Nat.le_trans (Nat.add_le_add_left (hb _) _) ?_
    omega
/-- The rung of the nearest word. -/
theorem nearest_rung (f : Ieee.Format) (neg : Bool) (mag : Nat) (place t : Int) (h : mag = 0 ∨ place + (mag.log2 : Int) < t) (ht : f.leastPlace + f.fractionBits < t) :
    ∃ rung : Nat, f.nearest neg mag place = f.word neg (min rung f.infRung) ∧ (rung : Int) ≤ (t - f.leastPlace - f.fractionBits + 1) * f.binade := by
  unfold Ieee.Format.nearest
  have hbp : 0 < f.binade := Nat.two_pow_pos _
  split
  · refine ⟨0, by rw [Nat.min_eq_left (Nat.zero_le _)], ?_⟩
    have : 0 ≤ (t - f.leastPlace - f.fractionBits + 1) * (f.binade : Int) := Int.mul_nonneg (by omega) (by omega)
    omega
  · rename_i hne
    have hlt := h.resolve_left hne
    dsimp only
    generalize hl : max (place + (mag.log2 : Int) - (f.fractionBits : Nat)) f.leastPlace = last
    have hcut : Ieee.Toward.even.cut neg (mag <<< (place - last).toNat) (last - place).toNat ≤ 2 ^ (f.fractionBits + 1) := by
      apply cut_le
      rw [Nat.shiftLeft_eq]
      have h1 : mag * 2 ^ (place - last).toNat < 2 ^ (mag.log2 + 1) * 2 ^ (place - last).toNat := Nat.mul_lt_mul_of_pos_right Nat.lt_log2_self (Nat.two_pow_pos _)
      refine Nat.lt_of_lt_of_le h1 ?_
      rw [← Nat.pow_add]
      exact Nat.pow_le_pow_right (by decide) (by omega)
    refine ⟨_, rfl, ?_⟩
    have h2 : 2 ^ (f.fractionBits + 1) = 2 * f.binade := by unfold Ieee.Format.binade; rw [Nat.pow_succ]; omega
    rw [h2] at hcut
    generalize Ieee.Toward.even.cut neg (mag <<< (place - last).toNat) (last - place).toNat = kept at *
    have h3 : ((last - f.leastPlace).toNat : Int) ≤ t - f.leastPlace - f.fractionBits - 1 := by omega
    have h4 := Int.mul_le_mul_of_nonneg_right h3 (show (0 : Int) ≤ (f.binade : Int) by omega)
    have h5 : (t - f.leastPlace - f.fractionBits + 1) * (f.binade : Int) = (t - f.leastPlace - f.fractionBits - 1) * (f.binade : Int) + 2 * f.binade := by
      rw [show t - f.leastPlace - f.fractionBits + 1 = t - f.leastPlace - f.fractionBits - 1 + 2 by omega, Int.add_mul]
    rw [h5]
    push_cast
    omega
theorem word_rung (f : Ieee.Format) (neg : Bool) {rung : Nat} (h : rung ≤ f.infRung) : f.word neg rung % f.signWeight = rung := by
  have h1 := f.infRung_lt
  have hs : rung < f.signWeight := by omega
  unfold Ieee.Format.word
  split
  · rw [Nat.add_mod_left, Nat.mod_eq_of_lt hs]
  · exact Nat.mod_eq_of_lt hs
/-- A rounded number is below a power of two, if the number was. -/
theorem nearest_below (f : Ieee.Format) (neg : Bool) (mag : Nat) (place t : Int) (h : mag = 0 ∨ place + (mag.log2 : Int) < t) (ht : f.leastPlace + f.fractionBits < t)
    {s : Bool} {m : Nat} {e : Int} (hr : f.read (f.nearest neg mag place) = .number s m e) : m = 0 ∨ e + (m.log2 : Int) < t + 1 := by
  obtain ⟨rung, h1, h2⟩ := nearest_rung f neg mag place t h ht
  rw [h1] at hr
  have hw := word_rung f neg (Nat.min_le_right rung f.infRung)
  have hbp : 0 < f.binade := Nat.two_pow_pos _
  have hbb : f.binade = 2 ^ f.fractionBits := rfl
  unfold Ieee.Format.read at hr
  simp only [hw] at hr
  have hrl : min rung f.infRung ≤ rung := Nat.min_le_left ..
  generalize min rung f.infRung = r at *
  split at hr
  · rename_i hb
    cases hr
    by_cases h0 : m = 0
    · exact .inl h0
    · right
      have : m.log2 < f.fractionBits := (Nat.log2_lt h0).2 hb
      omega
  · split at hr
    · cases hr
      right
      have hm : (f.binade + r % f.binade).log2 < f.fractionBits + 1 := by
        rw [Nat.log2_lt (by omega)]
        have := Nat.mod_lt r hbp
        rw [Nat.pow_succ]; omega
      have h6 : (r : Int) / f.binade ≤ t - f.leastPlace - f.fractionBits + 1 := by
        have : (r : Int) ≤ (t - f.leastPlace - f.fractionBits + 1) * f.binade := by omega
        have h7 := Int.ediv_le_ediv (show (0 : Int) < f.binade by omega) this
        rwa [Int.mul_ediv_cancel _ (by omega)] at h7
      have h8 : ((r / f.binade : Nat) : Int) = (r : Int) / f.binade := by simp
      omega
    · split at hr <;> cases hr
/-- What is below 2 to the power of 127 is not too great for the narrower kind. -/
theorem fits_below {x : Nat} (h : below2 .f64 x 127) : fits x := by
  intro s m e hx
  obtain ⟨rung, h1, h2⟩ := nearest_rung Ieee.single s m e 127 (h s m e hx) (by decide)
  show (Ieee.single.read (Ieee.single.nearest s m e)).isInfinity = false
  rw [h1]
  have e1 : Ieee.single.leastPlace = -149 := by decide
  have e2 : Ieee.single.binade = 8388608 := by decide
  have e3 : Ieee.single.infRung = 255 * 8388608 := by decide
  have e4 : Ieee.single.fractionBits = 23 := rfl
  rw [e1, e2, e4] at h2
  rw [e3]
  refine read_word_notInf _ _ ?_
  rw [e3]
  omega
theorem rootFrom_le (n : Nat) : ∀ (todo root : Nat), root * root ≤ n → Ieee.Datum.rootFrom n todo root * Ieee.Datum.rootFrom n todo root ≤ n
  | 0, root, h => h
  | todo + 1, root, h => by
    unfold Ieee.Datum.rootFrom
    dsimp only
    apply rootFrom_le
    split
    · assumption
    · exact h
theorem root_below {n : Nat} {d d' : Ieee.Datum} {t : Int} (h : d.root n = some d') (hd : ∀ s m e, d = .number s m e → m = 0 ∨ e + (m.log2 : Int) < 2 * t) :
    ∀ s m e, d' = .number s m e → m = 0 ∨ e + (m.log2 : Int) < t + 1 := by
  intro s m e he
  subst he
  cases d with
  | nan _ _ => cases h
  | infinity s0 =>
    simp only [Ieee.Datum.root] at h
    split at h <;> cases h
  | number s0 m0 i =>
    have h0 := hd s0 m0 i rfl
    simp only [Ieee.Datum.root] at h
    split at h
    · rename_i hz
      cases h
      exact .inl hz
    · rename_i hz
      split at h
      · cases h
      · replace h0 := h0.resolve_left hz
        simp only [Option.some.injEq, Ieee.Datum.number.injEq] at h
        obtain ⟨-, rfl, rfl⟩ := h
        generalize (2 * n - m0.log2) + ((i - ((2 * n - m0.log2 : Nat) : Int)) % 2).toNat = more at *
        right
        have hle := rootFrom_le (m0 <<< more) ((m0 <<< more).log2 / 2 + 1) 0 (Nat.zero_le _)
        generalize Ieee.Datum.rootFrom (m0 <<< more) ((m0 <<< more).log2 / 2 + 1) 0 = whole at *
        have hn : m0 <<< more < 2 ^ (m0.log2 + 1 + more) := by
          rw [Nat.shiftLeft_eq, Nat.pow_add _ (m0.log2 + 1)]
          exact Nat.mul_lt_mul_of_pos_right Nat.lt_log2_self (Nat.two_pow_pos _)
        have hw : whole < 2 ^ ((m0.log2 + 2 + more) / 2) := by
          apply Nat.lt_of_not_le
          intro hc
          have := Nat.mul_le_mul hc hc
          rw [← Nat.pow_add] at this
          have h3 : 2 ^ (m0.log2 + 1 + more) ≤ 2 ^ ((m0.log2 + 2 + more) / 2 + (m0.log2 + 2 + more) / 2) := Nat.pow_le_pow_right (by decide) (by omega)
          omega
        have hb : ∀ b : Bool, b.toNat ≤ 1 := fun b => by cases b <;> decide
        have hlog : (2 * whole + (whole * whole != m0 <<< more).toNat).log2 < (m0.log2 + 2 + more) / 2 + 1 := by
          by_cases hz2 : 2 * whole + (whole * whole != m0 <<< more).toNat = 0
          · rw [hz2]; simp
          · rw [Nat.log2_lt hz2, Nat.pow_succ]
            have := hb (whole * whole != m0 <<< more)
            omega
        omega
theorem read_inf (s : Bool) : Ieee.double.read (Ieee.double.word s Ieee.double.infRung) = .infinity s := by cases s <;> decide
theorem rt_below {x : Nat} {t : Int} (h : below2 .f64 x (2 * t)) (ht : -1000 < t) : below2 .f64 (rt .f64 x) (t + 2) := by
  intro s m e hr
  unfold rt at hr
  cases hs : FloatKind.f64.format.sqrt x with
  | none =>
    rw [hs] at hr
    have : isNan .f64 (qn .f64) = true := isNan_qn _
    unfold isNan at this
    rw [Option.getD_none] at hr
    rw [hr] at this
    cases this
  | some r =>
    rw [hs] at hr
    simp only [Option.getD_some] at hr
    unfold Ieee.Format.sqrt at hs
    obtain ⟨d, hd, rfl⟩ := Option.map_eq_some_iff.1 hs
    have hb := root_below hd (t := t) (fun s m e he => h s m e he)
    cases d with
    | number s1 m1 e1 =>
      have h1 := hb s1 m1 e1 rfl
      have := nearest_below Ieee.double s1 m1 e1 (t + 1) h1 (by show (-1074 : Int) + 52 < _; omega) hr
      omega
    | infinity s1 =>
      have : (Ieee.double.read (Ieee.double.word s1 Ieee.double.infRung)) = .number s m e := hr
      rw [read_inf] at this
      cases this
    | nan s1 t1 =>
      have := root_notNaN hd
      cases this
/-- A widened number is below 2 to the power of 128. -/
theorem widen_below (x : Nat) : below2 .f64 (widen x) 130 := by
  intro s m e hr
  unfold widen at hr
  cases hx : FloatKind.f32.decode x with
  | number s1 m1 e1 =>
    rw [hx] at hr
    obtain ⟨h1, h2, h3⟩ := single_read x hx
    have hl : m1 = 0 ∨ e1 + (m1.log2 : Int) < 128 := by
      by_cases hz : m1 = 0
      · exact .inl hz
      · right
        have : m1.log2 < 24 := (Nat.log2_lt hz).2 h1
        omega
    have := nearest_below Ieee.double s1 m1 e1 128 hl (by show (-1074 : Int) + 52 < _; omega) hr
    omega
  | infinity s1 =>
    rw [hx] at hr
    have : (Ieee.double.read (Ieee.double.word s1 Ieee.double.infRung)) = .number s m e := hr
    rw [read_inf] at this
    cases this
  | nan _ _ =>
    rw [hx] at hr
    exfalso
    have : isNan .f64 (qn .f64) = true := isNan_qn _
    unfold isNan at this
    simp only at hr
    rw [hr] at this
    cases this
/-- The root of a 32-bit number, as one. -/
def root32 (x : Nat) : Nat := narrow (rt .f64 (widen x))
theorem root_fits (x : Nat) : fits (rt .f64 (widen x)) := by
  refine fits_below (fun s m e hr => ?_)
  have := rt_below (t := 65) (widen_below x) (by decide) s m e hr
  omega
theorem root32_cn (x : Nat) : root32 (cn .f32 x) = root32 x := by
  unfold root32; rw [widen_congr (cn_cn _ _)]
theorem cn_root32 (x : Nat) : cn .f32 (root32 x) = root32 x := cn_narrow _
end Go.Fl
