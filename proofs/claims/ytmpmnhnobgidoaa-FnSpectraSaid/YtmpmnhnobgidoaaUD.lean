/- Walks: spectra of loads. -/
import Derived.Test.YtmpmnhnobgidoaaUC
namespace Go.Fl
set_option linter.unusedSimpArgs false
set_option linter.unusedVariables false
open Go Go.RowKit
section
variable {P : Program} {ops : Array Oper} {R : FuncId → Array Value → Value → Prop}
theorem run_fA (w : World) (op : BinOp) (k : FloatKind) (x y : Nat) (h : arith op = true) : ∃ r n, (Op.floatArith op k x y).run P w = .ok (.float k r) (w.drewN n) ∧ cn k r = fa op k x y := by
  obtain ⟨r, n, h1, h2⟩ := run_fa (P := P) w op 0 k x y h
  refine ⟨r, n, ?_, h2⟩
  cases op <;> simp [arith] at h <;> simpa [binOp] using h1
theorem run_cadd (w : World) (t : TypeId) (a b c d : Nat) : ∃ r q n, (binOp .add t (.complex .f32 a b) (.complex .f32 c d)).run P w = .ok (.complex .f32 r q) (w.drewN n) ∧ cn .f32 r = fa .add .f32 a c ∧ cn .f32 q = fa .add .f32 b d := by
  obtain ⟨r, n, h1, h2⟩ := run_fA (P := P) w .add .f32 a c rfl
  obtain ⟨q, m, h3, h4⟩ := run_fA (P := P) (w.drewN n) .add .f32 b d rfl
  refine ⟨r, q, n + m, ?_, h2, h4⟩
  simp [binOp, Op.complexOp, Op.Complex.arith, h1, h3, World.drewN_drewN]
theorem wpRq_cadd {w : World} {Q : Act → Prop} {a : Act} {o : Oper} {rest : List Oper} {t tk : TypeId} {x y : Operand} {X1 X2 Y1 Y2 s1 s2 t1 t2 : Nat} (ho : o.op = .binOp .add t x y tk) (hw : Region.wanted o (yielded ops a.tmps) = true)
    (hx : a.eval x = .complex .f32 X1 X2) (hy : a.eval y = .complex .f32 Y1 Y2) (hX1 : Hid (cn .f32 X1 = s1)) (hX2 : Hid (cn .f32 X2 = s2)) (hY1 : Hid (cn .f32 Y1 = t1)) (hY2 : Hid (cn .f32 Y2 = t2))
    (h : ∀ r q, Hid (cn .f32 r = fa .add .f32 s1 t1) → Hid (cn .f32 q = fa .add .f32 s2 t2) → wpRq P ops (fun w' => ∃ n, w' = w.drewN n) R Q rest (a.put o.dst (.complex .f32 r q))) : wpRq P ops (fun w' => ∃ n, w' = w.drewN n) R Q (o :: rest) a := by
  refine wpRq_rel (fun v => ∃ r q, v = .complex .f32 r q ∧ cn .f32 r = fa .add .f32 X1 Y1 ∧ cn .f32 q = fa .add .f32 X2 Y2) hw (fun n => ?_) (fun v hv => ?_)
  · obtain ⟨r, q, m, hr, h1, h2⟩ := run_cadd (P := P) (w.drewN n) t X1 X2 Y1 Y2
    refine ⟨.complex .f32 r q, n + m, ?_, r, q, rfl, h1, h2⟩
    unfold execOp
    simp [ho, hx, hy, Sem.run_bind, Sem.run_pure, eqGuard, hr, Result.andThen_ok, World.drewN_drewN]
  · obtain ⟨r, q, rfl, h1, h2⟩ := hv
    exact h r q (by show _ = _; rw [h1, ← hX1.out, ← hY1.out, fa_cn_left, fa_cn_right]) (by show _ = _; rw [h2, ← hX2.out, ← hY2.out, fa_cn_left, fa_cn_right])
end
end Go.Fl
namespace Go.Proofs.Ytmpmnhnobgidoaa
open Go.RowKit Go.Fl

/-- The turns of a place. -/
def rOf (n m k : Nat) : Nat := (n - m * k % n) % n
def tq (n r : Nat) : Nat := fa .quo .f64 (floatOfInt .f64 ((r : Nat) : Int)) (floatOfInt .f64 ((n : Nat) : Int))
theorem tq_rv {n r : Nat} (h1 : 1 ≤ n) (h2 : n ≤ 64) (hr : r < n) : ∃ q, Rv .f64 (tq n r) q ∧ 0 ≤ q ∧ q < 1 := by
  have e64 := ep64
  have t64 := et64
  have hn := ofInt_q .f64 ((n : Nat) : Int) (by show _ < 2 ^ 53; omega)
  have hR := ofInt_q .f64 ((r : Nat) : Int) (by show _ < 2 ^ 53; omega)
  rw [Rat.intCast_natCast] at hn hR
  have a1 : (1 : Rat) ≤ (n : Rat) := by
    have : ((1 : Nat) : Rat) ≤ (n : Rat) := Rat.natCast_le_natCast.2 h1
    simpa using this
  have a2 : (n : Rat) ≤ 64 := by
    have : (n : Rat) ≤ ((64 : Nat) : Rat) := Rat.natCast_le_natCast.2 h2
    simpa using this
  have a3 : (r : Rat) + 1 ≤ (n : Rat) := by
    have : ((r + 1 : Nat) : Rat) ≤ (n : Rat) := Rat.natCast_le_natCast.2 hr
    rwa [Rat.natCast_add] at this
  have a4 : (0 : Rat) ≤ (r : Rat) := Rat.natCast_nonneg
  have hn0 : (n : Rat) ≠ 0 := by grind
  obtain ⟨q, hq⟩ : ∃ q, q = (r : Rat) / (n : Rat) := ⟨_, rfl⟩
  have hqn : q * (n : Rat) = (r : Rat) := by rw [hq]; exact Rat.div_mul_cancel hn0
  have q0 : 0 ≤ q := by
    apply Rat.le_of_mul_le_mul_right _ (show (0 : Rat) < (n : Rat) by grind)
    grind
  have q1 : q ≤ 63 / 64 := by
    apply Rat.le_of_mul_le_mul_right _ (show (0 : Rat) < (n : Rat) by grind)
    rw [hqn]
    grind
  have hw : Wi q 1 := by unfold Wi; grind
  obtain ⟨t, t1, t2⟩ := quo_w hR hn hn0 hqn hw (by decide +kernel)
  have t3 := t2.wi hw
  refine ⟨t, t1, t2.pos q0, ?_⟩
  unfold Wi at t3
  rw [e64] at t3
  grind
/-- The sums. -/
def spRe (xs : List Nat) (m : Nat) : Nat → Nat
  | 0 => 0
  | k + 1 => fa .add .f32 (spRe xs m k) (fa .mul .f32 (phRe (tq xs.length (rOf xs.length m k))) (xs.getD k 0))
def spIm (xs : List Nat) (m : Nat) : Nat → Nat
  | 0 => 0
  | k + 1 => fa .add .f32 (spIm xs m k) (fa .mul .f32 (phIm (tq xs.length (rOf xs.length m k))) (xs.getD k 0))
def specAt (xs : List Nat) (m : Nat) : Cx := (spRe xs m xs.length, spIm xs m xs.length)
def spectrum (xs : List Nat) : List Cx := (List.range xs.length).map (specAt xs)
def specGood (xs : List Nat) : Bool := loadsOk xs && finX (spectrum xs)
theorem spectrum_length (xs : List Nat) : (spectrum xs).length = xs.length := by simp [spectrum]
theorem spectrum_take (xs : List Nat) (m : Nat) (h : m < xs.length) : (spectrum xs).take (m + 1) = (spectrum xs).take m ++ [specAt xs m] := by
  rw [List.take_succ_eq_append_getElem (by rw [spectrum_length]; exact h)]
  simp [spectrum]
theorem spRe_cn (xs : List Nat) (m k : Nat) : cn .f32 (spRe xs m k) = spRe xs m k := by
  cases k with
  | zero => exact (show cn .f32 0 = 0 by decide)
  | succ k => exact cn_fa _ _ _ _
theorem spIm_cn (xs : List Nat) (m k : Nat) : cn .f32 (spIm xs m k) = spIm xs m k := by
  cases k with
  | zero => exact (show cn .f32 0 = 0 by decide)
  | succ k => exact cn_fa _ _ _ _
theorem finX_not {xs : List Nat} {m : Nat} (hm : m < xs.length) (h : cfin (specAt xs m) = false) : finX (spectrum xs) = false := by
  unfold finX
  rw [List.all_eq_false]
  exact ⟨specAt xs m, List.mem_map.2 ⟨m, List.mem_range.2 hm, rfl⟩, by rw [h]; simp⟩
theorem finX_of {xs : List Nat} (h : ∀ m, m < xs.length → cfin (specAt xs m) = true) : finX (spectrum xs) = true := by
  unfold finX
  rw [List.all_eq_true]
  intro p hp
  obtain ⟨m, hm, rfl⟩ := List.mem_map.1 hp
  exact h m (List.mem_range.1 hm)
/-- The whole numbers on the way to the turns. -/
structure Idx (n m k A B C : Nat) : Prop where
  w1 : IntKind.i64.wrap ((m : Int) * (k : Int)) = (A : Int)
  t1 : Int.tmod (A : Int) (n : Int) = (B : Int)
  w2 : IntKind.i64.wrap ((n : Int) - (B : Int)) = (C : Int)
  t2 : Int.tmod (C : Int) (n : Int) = ((rOf n m k : Nat) : Int)
theorem Idx.of {n m k : Nat} (h1 : 1 ≤ n) (h2 : n ≤ 64) (hm : m < n) (hk : k < n) : Idx n m k (m * k) (m * k % n) (n - m * k % n) := by
  have hmk : m * k ≤ 64 * 64 := Nat.mul_le_mul (by omega) (by omega)
  have hlt := Nat.mod_lt (m * k) (show 0 < n by omega)
  refine ⟨?_, ?_, ?_, ?_⟩
  · rw [← Int.natCast_mul, IntKind.wrap_i64]; omega
  · rw [Int.tmod_eq_emod_of_nonneg (by omega)]; rfl
  · rw [IntKind.wrap_i64]; omega
  · rw [Int.tmod_eq_emod_of_nonneg (by omega)]; rfl
theorem rOf_lt {n m k : Nat} (h1 : 1 ≤ n) : rOf n m k < n := Nat.mod_lt _ (by omega)
/-- What SpectrumOfLoads gives. -/
def SpecOut (xs : List Nat) (w : World) (e : Ending) (w' : World) : Prop :=
  ∃ u, e = .returned (.tuple #[u, .bool (specGood xs)]) ∧ OX w.heap.size w' u (if specGood xs then spectrum xs else []) ∧ Below w.heap.size w w'
theorem SpecOut.no {xs : List Nat} {w w' : World} (h : specGood xs = false) (hb : Below w.heap.size w w') : SpecOut xs w (.returned (.tuple #[.slice none 0 0, .bool false])) w' :=
  ⟨_, by rw [h], by rw [h]; exact OX_nil _ _, hb⟩
theorem SpecOut.ok {xs : List Nat} {u : Value} {w w' : World} (h : specGood xs = true) (ho : OX w.heap.size w' u (spectrum xs)) (hb : Below w.heap.size w w') : SpecOut xs w (.returned (.tuple #[u, .bool true])) w' :=
  ⟨_, by rw [h], by rw [h]; exact ho, hb⟩
theorem word_of {r x : Nat} (h : cn .f32 r = x) (hf : fin .f32 x = true) : r = x := by
  obtain ⟨q, hq⟩ := Rv.of_fin hf
  have h2 : isNan .f32 r = false := by rw [← isNan_cn, h]; exact hq.notNan
  rw [cn_of_not h2] at h
  exact h
theorem i_ScaleComplex (a b x : Nat) (w : World) : Calls Try.prog 74 #[.complex .f32 a b, .float .f32 x] w fun e w' => (∃ r q, e = .returned (.complex .f32 r q) ∧ cn .f32 r = fa .mul .f32 a x ∧ cn .f32 q = fa .mul .f32 b x) ∧ ∃ n, w' = w.drewN n := by
  go_enter Try.func74, Try.ntmps74
  go_wp2_with (refine wpList_fa rfl rfl rfl rfl rfl (by first | assumption | exact hrfl _) (by first | assumption | exact hrfl _) ?_; intro r n hr)
  go_ret
  rename_i r1 n1 hr1
  exact ⟨⟨_, _, rfl, by rw [hr1.out, fa_cn_left, fa_cn_right], by rw [hr.out, fa_cn_left, fa_cn_right]⟩, _, rfl⟩
theorem s_l01Scale (a b x : Nat) (w : World) : Calls Try.prog 102 #[.complex .f32 a b, .float .f32 x] w fun e w' => (∃ r q, e = .returned (.complex .f32 r q) ∧ cn .f32 r = fa .mul .f32 a x ∧ cn .f32 q = fa .mul .f32 b x) ∧ ∃ n, w' = w.drewN n := by
  go_enter Try.func102, Try.ntmps102
  go_wp2_with (refine wpList_fa rfl rfl rfl rfl rfl (by first | assumption | exact hrfl _) (by first | assumption | exact hrfl _) ?_; intro r n hr)
  go_ret
  rename_i r1 n1 hr1
  exact ⟨⟨_, _, rfl, by rw [hr1.out, fa_cn_left, fa_cn_right], by rw [hr.out, fa_cn_left, fa_cn_right]⟩, _, rfl⟩
theorem i_plus (a b c d : Nat) (w : World) : Calls Try.prog 73 #[.complex .f32 a b, .complex .f32 c d] w fun e w' => (∃ r q, e = .returned (.complex .f32 r q) ∧ cn .f32 r = fa .add .f32 a c ∧ cn .f32 q = fa .add .f32 b d) ∧ ∃ n, w' = w.drewN n := by
  go_enter Try.func73, Try.ntmps73
  go_wp2_with (refine wpList_fa rfl rfl rfl rfl rfl (by first | assumption | exact hrfl _) (by first | assumption | exact hrfl _) ?_; intro r n hr)
  go_ret
  rename_i r1 n1 hr1
  exact ⟨⟨_, _, rfl, by rw [hr1.out, fa_cn_left, fa_cn_right], by rw [hr.out, fa_cn_left, fa_cn_right]⟩, _, rfl⟩
theorem i_IsFiniteComplex (a b : Nat) (w : World) : Calls Try.prog 69 #[.complex .f32 a b] w fun e w' => e = .returned (.bool (cfin (a, b))) ∧ Below w.heap.size w w' := by
  go_enter Try.func69, Try.ntmps69
  go_wp2_with (go_at_call 52; refine (i_areFinite _ [a, b] _ (RF_top2 _ _ (by simp) _ _ _)).mono ?_; rintro e w' ⟨rfl, n, rfl⟩)
  go_ret
  exact ⟨by unfold finAll cfin; simp, (by repeat (first | exact Below.refl _ _ | assumption | refine below_drewN ?_ _ | refine below_alloc (Nat.le_refl _) ?_ _ | (refine Below.setCell ?_ (by first | exact Nat.le_refl _ | (simp; done) | (simp; omega) | omega) _) | (refine below_step (Nat.le_refl _) ?_ (by assumption))))⟩
set_option maxRecDepth 100000 in
set_option maxHeartbeats 4000000 in
theorem i_SpectrumOfLoads (v : Value) (xs : List Nat) (w : World) (hx : RF w v xs) : Calls Try.prog 37 #[v] w (SpecOut xs w) := by
  have HX := Lib.hid hx
  obtain ⟨p1, cap1, rfl, hm1, hc1⟩ := id hx
  clear hx
  cases hlo : loadsOk xs
  · have HL := Lib.hid hlo
    have HQ := Lib.hid (fun W (h : RF W (.slice p1 xs.length cap1) xs) => i_areLoads _ xs W h)
    rw [hlo] at HQ
    clear hlo hc1
    go_enter Try.func37, Try.ntmps37
    go_wp2_with (go_at_call 48; refine (HQ.out _ HX.out).mono ?_; rintro e w' ⟨rfl, n, rfl⟩)
    go_ret2
    exact SpecOut.no (by unfold specGood; rw [HL.out]; rfl) (by repeat (first | exact Below.refl _ _ | assumption | refine below_drewN ?_ _ | refine below_alloc (Nat.le_refl _) ?_ _ | (refine Below.setCell ?_ (by first | exact Nat.le_refl _ | (simp; done) | (simp; omega) | omega) _) | (refine below_step (Nat.le_refl _) ?_ (by assumption))))
  have HL := Lib.hid hlo
  have HXL : Hid (1 ≤ xs.length ∧ xs.length ≤ 64) := by
    unfold loadsOk at hlo
    simp at hlo
    exact ⟨hlo.1.1, hlo.1.2⟩
  have HQ := Lib.hid (fun W (h : RF W (.slice p1 xs.length cap1) xs) => i_areLoads _ xs W h)
  rw [hlo] at HQ
  obtain ⟨b1, o1, rfl, hcell⟩ := hc1.resolve_left (by have := HXL.out; omega)
  have HC := Lib.hid hcell
  clear hlo hcell hc1
  go_enter Try.func37, Try.ntmps37
  go_wp2_with (go_at_call 48; refine (HQ.out _ HX.out).mono ?_; rintro e w' ⟨rfl, n, rfl⟩)
  have HO2 : Hid (OX w.heap.size ((w.drewN n).alloc (.cells #[] 57)) (.slice (some ⟨w.heap.size, 0, none⟩) 0 0) []) := OX_empty _ _ _ (by simp) (by simp) _ rfl
  have HB2 : Hid (Below w.heap.size w ((w.drewN n).alloc (.cells #[] 57))) := below_alloc (Nat.le_refl _) (below_drewN (Below.refl _ _) n) _
  generalize (w.drewN n).alloc (.cells #[] 57) = w5 at *
  obtain ⟨z, hz⟩ : ∃ z, z = w.heap.size := ⟨_, rfl⟩
  rw [← hz] at HO2
  rw [← hz]
  have HZ := Lib.hid hz
  clear hz HQ
  go_loopw [5, 18] (fun o i wr => ∃ m : Nat, m ≤ xs.length ∧ i = .int .i64 (m : Int) ∧ Hid (OX w.heap.size wr o ((spectrum xs).take m)) ∧ Hid (∀ j, j < m → cfin (specAt xs j) = true) ∧ Hid (Below w.heap.size w wr)) (fun _ i _ => xs.length - (intOf i).toNat)
  case atStart => exact ⟨0, Nat.zero_le _, rfl, (by show OX _ _ _ _; rw [← HZ.out]; exact HO2.out), (fun j hj => absurd hj (by omega)), HB2.out⟩
  case round =>
    obtain ⟨m, hm, rfl, hO, hF, hB⟩ := hrel
    by_cases hlt : m < xs.length
    · have hm64 : m < 64 := by have := HXL.out; omega
      have r3 : (m : Int) < (xs.length : Int) := by omega
      have HLT := Lib.hid hlt
      clear HO2 HB2 HZ hm hlt
      go_wp2_with fail
      go_loopw [7, 23] (fun s i wq => ∃ (k r q N : Nat), k ≤ xs.length ∧ i = .int .i64 (k : Int) ∧ s = .complex .f32 r q ∧ Hid (cn .f32 r = spRe xs m k) ∧ Hid (cn .f32 q = spIm xs m k) ∧ wq = wr.drewN N) (fun _ i _ => xs.length - (intOf i).toNat)
      case atStart => exact ⟨0, 0, 0, 0, Nat.zero_le _, rfl, rfl, (show cn .f32 0 = 0 by decide), (show cn .f32 0 = 0 by decide), rfl⟩
      case round =>
        obtain ⟨k, r, q, N, hk, rfl, rfl, hr, hq, rfl⟩ := hrel
        by_cases hlt : k < xs.length
        · have c1 := (hB.out.cell (p := ⟨b1, o1 + k, none⟩) (block_lt_of_cell (HC.out k (.float .f32 xs[k]) (by simp [hlt])))).trans (HC.out k (.float .f32 xs[k]) (by simp [hlt]))
          have hgx : xs[k] = xs.getD k 0 := by rw [List.getD_eq_getElem?_getD, List.getElem?_eq_getElem hlt]; rfl
          rw [hgx] at c1
          obtain ⟨i1, i2, i3, i4⟩ := Idx.of HXL.out.1 HXL.out.2 HLT.out hlt
          obtain ⟨T, hT, t0, t1⟩ := tq_rv HXL.out.1 HXL.out.2 (rOf_lt (n := xs.length) (m := m) (k := k) HXL.out.1)
          have HPH := Lib.hid (fun W => i_PhasorOf _ (fa_quo_lt _ _) hT t0 t1 W)
          have rq := run_arith (P := Try.prog) 37 (show Rv .f64 (fa .quo .f64 (floatOfInt .f64 ((rOf xs.length m k : Nat) : Int)) (floatOfInt .f64 ((xs.length : Nat) : Int))) T from hT)
          have e0 : fa .quo .f64 (floatOfInt .f64 ((rOf xs.length m k : Nat) : Int)) (floatOfInt .f64 ((xs.length : Nat) : Int)) = tq xs.length (rOf xs.length m k) := rfl
          rw [e0] at rq HPH
          have HS1 : Hid (spRe xs m (k + 1) = fa .add .f32 (spRe xs m k) (fa .mul .f32 (phRe (tq xs.length (rOf xs.length m k))) (xs.getD k 0))) := rfl
          have HS2 : Hid (spIm xs m (k + 1) = fa .add .f32 (spIm xs m k) (fa .mul .f32 (phIm (tq xs.length (rOf xs.length m k))) (xs.getD k 0))) := rfl
          have HLK := Lib.hid hlt
          have hk64 : k < 64 := by have := HXL.out; omega
          have r4 : (k : Int) < (xs.length : Int) := by omega
          have r5 : ((xs.length : Int) == 0) = false := beq_eq_false_iff_ne.2 (by have := HXL.out; omega)
          clear hT t0 t1 e0 hk hlt hgx
          generalize tq xs.length (rOf xs.length m k) = T' at *
          generalize rOf xs.length m k = RO at *
          generalize m * k = A at *
          generalize A % xs.length = B at *
          generalize xs.length - B = C at *
          generalize phRe T' = PR at *
          generalize phIm T' = PI at *
          generalize xs.getD k 0 = X at *
          go_wp2_with fail
          refine (HPH.out _).mono ?_
          rintro e' w6 ⟨rfl, N6, rfl⟩
          go_wp2_with fail
          refine (i_ScaleComplex PR PI X _).mono ?_
          rintro e' w7 ⟨⟨r1, q1, rfl, hr1, hq1⟩, N7, rfl⟩
          have HR1 := Lib.hid hr1
          have HQ1 := Lib.hid hq1
          clear hr1 hq1
          go_wp2_with fail
          refine (i_plus r q r1 q1 _).mono ?_
          rintro e' w8 ⟨⟨r2, q2, rfl, hr2, hq2⟩, N8, rfl⟩
          have HR2 := Lib.hid hr2
          have HQ2 := Lib.hid hq2
          clear hr2 hq2
          go_wp2_with fail
          go_roundw
          case rel =>
            refine ⟨k + 1, _, _, _, HLK.out, by go_num, rfl, ?_, ?_, rfl⟩
            · show _ = _
              rw [HR2.out, HS1.out, ← fa_cn_left, ← fa_cn_right, hr.out, HR1.out]
            · show _ = _
              rw [HQ2.out, HS2.out, ← fa_cn_left, ← fa_cn_right, hq.out, HQ1.out]
          case measure => have := HLK.out; simp [intOf]; omega
        · obtain rfl : k = xs.length := by omega
          clear hk hlt
          go_wp2_with fail
          refine (i_IsFiniteComplex r q _).mono ?_
          rintro e' w6 ⟨rfl, hb⟩
          have hcf : cfin (r, q) = cfin (specAt xs m) := by
            unfold cfin specAt
            rw [← fin_cn .f32 r, ← fin_cn .f32 q, hr.out, hq.out]
          rw [hcf]
          have HB3 : Hid (Below w.heap.size w w6) := below_step (Nat.le_refl _) (below_drewN hB.out N) hb
          have HO3 : Hid (OX w.heap.size w6 u5 ((spectrum xs).take m)) := OX_below hO.out (below_step (Nat.le_refl _) (below_drewN (Below.refl _ _) N) hb)
          clear hb hcf
          cases hcf : cfin (specAt xs m)
          · have HG : Hid (specGood xs = false) := by show _ = _; unfold specGood; rw [finX_not HLT.out hcf, Bool.and_false]
            clear hcf
            go_wp2
            go_ret2
            exact SpecOut.no HG.out HB3.out
          · have HCF := Lib.hid hcf
            have hsp : (r, q) = specAt xs m := by
              unfold cfin at hcf
              rw [Bool.and_eq_true] at hcf
              unfold specAt at hcf ⊢
              rw [word_of hr.out hcf.1, word_of hq.out hcf.2]
            have HSP := Lib.hid hsp
            have HT := Lib.hid (spectrum_take xs m HLT.out)
            have hcl : ((spectrum xs).take m).length ≤ 1048576 := by rw [List.length_take]; omega
            have HXL2 := Lib.hid hcl
            have HS : Hid (w.heap.size ≤ w6.heap.size) := HB3.out.size
            clear hcf hsp hcl
            generalize (spectrum xs).take m = ys at *
            have HOa : Hid (OX w.heap.size (w6.alloc (.cells #[.complex .f32 r q] 57)) u5 ys) := OX_below HO3.out (below_alloc (Nat.le_refl _) (Below.refl _ _) _)
            go_wp2_with (refine wpList_appX w.heap.size ys (r, q) rfl rfl rfl rfl HOa.out (cell_top1 _ _ rfl _ _) HXL2.out (by rw [World.size_alloc]; have := HS.out; omega) ?_; intro u w9 hO9 hB9)
            go_roundw
            case rel =>
              refine ⟨m + 1, HLT.out, by go_num, ?_, ?_, HB3.out.trans (Below.trans (below_alloc HS.out (Below.refl _ _) _) hB9)⟩
              · show OX _ _ _ _
                rw [HT.out, ← HSP.out]; exact hO9
              · show ∀ j, j < m + 1 → _
                intro j hj
                by_cases hjm : j = m
                · subst hjm; exact HCF.out
                · exact hF.out j (by omega)
            case measure => have := HLT.out; simp [intOf]; omega
    · obtain rfl : m = xs.length := by omega
      have HG : Hid (specGood xs = true) := by show _ = _; unfold specGood; rw [HL.out, finX_of hF.out]; rfl
      have ht : (spectrum xs).take xs.length = spectrum xs := by
        have := List.take_length (l := spectrum xs)
        rwa [spectrum_length] at this
      rw [ht] at hO
      clear ht hm hlt
      go_wp2
      go_ret2
      exact SpecOut.ok HG.out hO.out hB.out
/-- What the reference's region asks of its callees. -/
def SpRel (PH SC T PR PI X MR MI : Nat) (f : FuncId) (args : Array Value) (u : Value) : Prop :=
  (f = PH → args = #[.float .f64 T] → u = .complex .f32 PR PI) ∧ (f = SC → args = #[.complex .f32 PR PI, .float .f32 X] → ∃ r q, u = .complex .f32 r q ∧ cn .f32 r = MR ∧ cn .f32 q = MI)
set_option maxRecDepth 100000 in
set_option maxHeartbeats 4000000 in
theorem s_l07Spectrum (v : Value) (xs : List Nat) (w : World) (hx : RF w v xs) (h1 : 1 ≤ xs.length) (h2 : xs.length ≤ 64) : Calls Try.prog 77 #[v] w fun e w' => ∃ u zs, e = .returned u ∧ OX w.heap.size w' u zs ∧ Hid (zs.map (fun p => (cn .f32 p.1, cn .f32 p.2)) = spectrum xs) ∧ Below w.heap.size w w' := by
  have HX := Lib.hid hx
  obtain ⟨p1, cap1, rfl, hm1, hc1⟩ := id hx
  clear hx
  have HXL := Lib.hid (And.intro h1 h2)
  obtain ⟨b1, o1, rfl, hcell⟩ := hc1.resolve_left (by omega)
  have HC := Lib.hid hcell
  clear hcell hc1 h1 h2
  go_enter Try.func77, Try.ntmps77
  go_wp2_with fail
  have HO2 : Hid (OX w.heap.size (w.alloc (.cells #[] 57)) (.slice (some ⟨w.heap.size, 0, none⟩) 0 0) []) := OX_empty _ _ _ (by simp) (by simp) _ rfl
  have HB2 : Hid (Below w.heap.size w (w.alloc (.cells #[] 57))) := below_alloc (Nat.le_refl _) (Below.refl _ _) _
  generalize w.alloc (.cells #[] 57) = w5 at *
  obtain ⟨z, hz⟩ : ∃ z, z = w.heap.size := ⟨_, rfl⟩
  rw [← hz] at HO2
  rw [← hz]
  have HZ := Lib.hid hz
  clear hz
  go_loopw [4, 5] (fun o i wr => ∃ (m : Nat) (zs : List Cx), m ≤ xs.length ∧ i = .int .i64 (m : Int) ∧ zs.length = m ∧ Hid (OX w.heap.size wr o zs) ∧ Hid (zs.map (fun p => (cn .f32 p.1, cn .f32 p.2)) = (spectrum xs).take m) ∧ Hid (Below w.heap.size w wr)) (fun _ i _ => xs.length - (intOf i).toNat)
  case atStart => exact ⟨0, [], Nat.zero_le _, rfl, rfl, (by show OX _ _ _ _; rw [← HZ.out]; exact HO2.out), rfl, HB2.out⟩
  case round =>
    obtain ⟨m, zs, hm, rfl, hzl, hO, hF, hB⟩ := hrel
    by_cases hlt : m < xs.length
    · have hm64 : m < 64 := by have := HXL.out; omega
      have r3 : (m : Int) < (xs.length : Int) := by omega
      have HLT := Lib.hid hlt
      have HZL := Lib.hid hzl
      clear HO2 HB2 HZ hm hlt hzl
      go_wp2_with fail
      go_loopw [6, 7] (fun s i wq => ∃ (k r q N : Nat), k ≤ xs.length ∧ i = .int .i64 (k : Int) ∧ s = .complex .f32 r q ∧ Hid (cn .f32 r = spRe xs m k) ∧ Hid (cn .f32 q = spIm xs m k) ∧ wq = wr.drewN N) (fun _ i _ => xs.length - (intOf i).toNat)
      case atStart => exact ⟨0, 0, 0, 0, Nat.zero_le _, rfl, rfl, (show cn .f32 0 = 0 by decide), (show cn .f32 0 = 0 by decide), rfl⟩
      case round =>
        obtain ⟨k, r, q, N, hk, rfl, rfl, hr, hq, rfl⟩ := hrel
        by_cases hlt : k < xs.length
        · have c1 := (hB.out.cell (p := ⟨b1, o1 + k, none⟩) (block_lt_of_cell (HC.out k (.float .f32 xs[k]) (by simp [hlt])))).trans (HC.out k (.float .f32 xs[k]) (by simp [hlt]))
          have hgx : xs[k] = xs.getD k 0 := by rw [List.getD_eq_getElem?_getD, List.getElem?_eq_getElem hlt]; rfl
          rw [hgx] at c1
          obtain ⟨i1, i2, i3, i4⟩ := Idx.of HXL.out.1 HXL.out.2 HLT.out hlt
          obtain ⟨T, hT, t0, t1⟩ := tq_rv HXL.out.1 HXL.out.2 (rOf_lt (n := xs.length) (m := m) (k := k) HXL.out.1)
          have HPH := Lib.hid (fun W => s_l01Phasor _ hT t0 t1 W)
          have rq := run_arith (P := Try.prog) 37 (show Rv .f64 (fa .quo .f64 (floatOfInt .f64 ((rOf xs.length m k : Nat) : Int)) (floatOfInt .f64 ((xs.length : Nat) : Int))) T from hT)
          have e0 : fa .quo .f64 (floatOfInt .f64 ((rOf xs.length m k : Nat) : Int)) (floatOfInt .f64 ((xs.length : Nat) : Int)) = tq xs.length (rOf xs.length m k) := rfl
          rw [e0] at rq
          have HS1 : Hid (spRe xs m (k + 1) = fa .add .f32 (spRe xs m k) (fa .mul .f32 (phRe (tq xs.length (rOf xs.length m k))) (xs.getD k 0))) := rfl
          have HS2 : Hid (spIm xs m (k + 1) = fa .add .f32 (spIm xs m k) (fa .mul .f32 (phIm (tq xs.length (rOf xs.length m k))) (xs.getD k 0))) := rfl
          have HLK := Lib.hid hlt
          have hk64 : k < 64 := by have := HXL.out; omega
          have r4 : (k : Int) < (xs.length : Int) := by omega
          have r5 : ((xs.length : Int) == 0) = false := beq_eq_false_iff_ne.2 (by have := HXL.out; omega)
          clear hT t0 t1 e0 hk hlt hgx
          generalize tq xs.length (rOf xs.length m k) = T' at *
          generalize rOf xs.length m k = RO at *
          generalize m * k = A at *
          generalize A % xs.length = B at *
          generalize xs.length - B = C at *
          generalize phRe T' = PR at *
          generalize phIm T' = PI at *
          generalize xs.getD k 0 = X at *
          go_wp2_with fail
          ((refine wp_region_rq_lit (SpRel 103 102 T' PR PI X (fa .mul .f32 PR X) (fa .mul .f32 PI X)) (by kernel_rfl) (by kernel_rfl) ?_); (iterate 6 (refine wpRq_det' (by kernel_rfl) (fun K hK => ?_); go_simp; refine hK _ ?_; clear hK K)); (refine wpRq_call1 (f := 103) (X := .float .f64 T') rfl (by kernel_rfl) rfl (run_enter Try.func103 (by kernel_rfl) rfl) (fun n => (HPH.out _).mono (fun e w' ⟨he, hn⟩ => ⟨_, he, ⟨fun _ _ => rfl, fun h => absurd h (by decide)⟩, hn⟩)) ?_; intro v hv; replace hv := hv.1 rfl rfl; subst hv); (iterate 4 (refine wpRq_det' (by kernel_rfl) (fun K hK => ?_); go_simp; refine hK _ ?_; clear hK K)); (refine wpRq_call2 (f := 102) (X := .complex .f32 PR PI) (Y := .float .f32 X) rfl (by kernel_rfl) rfl rfl (run_enter Try.func102 (by kernel_rfl) rfl) (fun n => (s_l01Scale PR PI X _).mono (fun e w' ⟨⟨r, q, he, h1, h2⟩, hn⟩ => ⟨_, he, ⟨fun h => absurd h (by decide), fun _ _ => ⟨r, q, rfl, h1, h2⟩⟩, hn⟩)) ?_; intro v hv; obtain ⟨r1, q1, hv', hr1, hq1⟩ := hv.2 rfl rfl; subst hv'; have HR1 := Lib.hid hr1; have HQ1 := Lib.hid hq1; clear hv hr1 hq1); (refine wpRq_cadd rfl (by kernel_rfl) rfl rfl hr hq HR1 HQ1 ?_; intro r2 q2 HR2 HQ2); (refine wpRq_det' (by kernel_rfl) (fun K hK => ?_); go_simp; refine hK _ ?_; clear hK K); (refine wpRq_nil ?_); intro nq)
          go_wp2_with fail
          go_roundw
          case rel => exact ⟨k + 1, _, _, _, HLK.out, by go_num, rfl, (by show _ = _; rw [HR2.out, HS1.out]), (by show _ = _; rw [HQ2.out, HS2.out]), rfl⟩
          case measure => have := HLK.out; simp [intOf]; omega
        · obtain rfl : k = xs.length := by omega
          clear hk hlt
          have HB3 : Hid (Below w.heap.size w (wr.drewN N)) := below_drewN hB.out N
          have HO3 : Hid (OX w.heap.size (wr.drewN N) u4 zs) := OX_below hO.out (below_drewN (Below.refl _ _) N)
          generalize wr.drewN N = w6 at *
          have HT := Lib.hid (spectrum_take xs m HLT.out)
          have HXL2 : Hid (zs.length ≤ 1048576) := by show _ ≤ _; have := HZL.out; omega
          have HS : Hid (w.heap.size ≤ w6.heap.size) := HB3.out.size
          have HOa : Hid (OX w.heap.size (w6.alloc (.cells #[.complex .f32 r q] 57)) u4 zs) := OX_below HO3.out (below_alloc (Nat.le_refl _) (Below.refl _ _) _)
          go_wp2_with (refine wpList_appX w.heap.size zs (r, q) rfl rfl rfl rfl HOa.out (cell_top1 _ _ rfl _ _) HXL2.out (by rw [World.size_alloc]; have := HS.out; omega) ?_; intro u w9 hO9 hB9)
          go_roundw
          case rel =>
            refine ⟨m + 1, zs ++ [(r, q)], HLT.out, by go_num, by rw [List.length_append, HZL.out]; rfl, hO9, ?_, HB3.out.trans (Below.trans (below_alloc HS.out (Below.refl _ _) _) hB9)⟩
            show _ = _
            rw [HT.out, List.map_append, hF.out]
            show _ ++ [(cn .f32 r, cn .f32 q)] = _
            rw [hr.out, hq.out]
            rfl
          case measure => have := HLT.out; simp [intOf]; omega
    · obtain rfl : m = xs.length := by omega
      have ht : (spectrum xs).take xs.length = spectrum xs := by
        have := List.take_length (l := spectrum xs)
        rwa [spectrum_length] at this
      rw [ht] at hF
      clear ht hm hlt hzl
      go_wp2
      go_ret
      exact ⟨_, zs, rfl, hO.out, hF, hB.out⟩
set_option maxRecDepth 100000 in
set_option maxHeartbeats 4000000 in
theorem s_SpectrumOfLoads (v : Value) (xs : List Nat) (w : World) (hx : RF w v xs) : Calls Try.prog 39 #[v] w (SpecOut xs w) := by
  have HX := Lib.hid hx
  obtain ⟨p1, cap1, rfl, hm1, -⟩ := id hx
  clear hx
  cases hlo : loadsOk xs
  · have HL := Lib.hid hlo
    have HQ := Lib.hid (fun W (h : RF W (.slice p1 xs.length cap1) xs) => s_l07Loads _ xs W h)
    rw [hlo] at HQ
    clear hlo
    go_enter Try.func39, Try.ntmps39
    go_wp2_with (go_at_call 55; refine (HQ.out _ HX.out).mono ?_; rintro e w' ⟨rfl, n, rfl⟩)
    go_ret2
    exact SpecOut.no (by unfold specGood; rw [HL.out]; rfl) (by repeat (first | exact Below.refl _ _ | assumption | refine below_drewN ?_ _ | refine below_alloc (Nat.le_refl _) ?_ _ | (refine Below.setCell ?_ (by first | exact Nat.le_refl _ | (simp; done) | (simp; omega) | omega) _) | (refine below_step (Nat.le_refl _) ?_ (by assumption))))
  have HL := Lib.hid hlo
  have HXL : Hid (1 ≤ xs.length ∧ xs.length ≤ 64) := by
    unfold loadsOk at hlo
    simp at hlo
    exact ⟨hlo.1.1, hlo.1.2⟩
  have HQ := Lib.hid (fun W (h : RF W (.slice p1 xs.length cap1) xs) => s_l07Loads _ xs W h)
  rw [hlo] at HQ
  clear hlo
  go_enter Try.func39, Try.ntmps39
  go_wp2_with (go_at_call 55; refine (HQ.out _ HX.out).mono ?_; rintro e w' ⟨rfl, n, rfl⟩)
  refine (s_l07Spectrum _ xs _ (HX.out.drewN n) HXL.out.1 HXL.out.2).mono ?_
  rintro e w1 ⟨u, zs, rfl, hO, hF, hb⟩
  have HB1 : Hid (Below w.heap.size w w1) := below_step (Nat.le_refl _) (below_drewN (Below.refl _ _) n) hb
  have HO := Lib.hid hO
  have HZL : Hid (zs.length = xs.length) := by
    have := congrArg List.length hF.out
    rw [List.length_map, spectrum_length] at this
    exact this
  have hR := RX_of_own hO (by have := HXL.out; have := HZL.out; omega)
  obtain ⟨pz, cz, rfl, -, hcz⟩ := id hR
  have HCZ := Lib.hid hcz
  have HAT : Hid (∀ j, (h : j < zs.length) → cfin zs[j] = cfin (specAt xs j)) := by
    show ∀ _, _
    intro j h
    have h2 := congrArg (fun l => l[j]?) hF.out
    simp only [List.getElem?_map, List.getElem?_eq_getElem h, spectrum, List.getElem?_eq_getElem (show j < (List.range xs.length).length by rw [List.length_range, ← HZL.out]; exact h), Option.map_some, Option.some.injEq, List.getElem_range] at h2
    rw [← h2]
    unfold cfin
    rw [fin_cn, fin_cn]
  clear hO hb hR hcz HQ
  go_wp2_with fail
  go_loopw [13] (fun i wr => ∃ j N : Nat, j ≤ zs.length ∧ i = .int .i64 (j : Int) ∧ Hid (∀ i, i < j → cfin (specAt xs i) = true) ∧ wr = w1.drewN N) (fun i _ => zs.length - (intOf i).toNat)
  case atStart => exact ⟨0, 0, Nat.zero_le _, rfl, (fun j hj => absurd hj (by omega)), rfl⟩
  case round =>
    obtain ⟨j, N, hj, rfl, hG, rfl⟩ := hrel
    by_cases hlt : j < zs.length
    · obtain ⟨bz, oz, rfl, hcell⟩ := HCZ.out.resolve_left (by omega)
      have c1 : w1.cell? ⟨bz, oz + j, none⟩ = some (cx zs[j]) := hcell j _ (by simp [hlt])
      have hat := HAT.out j hlt
      have HLT := Lib.hid hlt
      have hj64 : j < 64 := by have := HXL.out; have := HZL.out; omega
      have r3 : (j : Int) < (zs.length : Int) := by omega
      have HS1 := Lib.hid (fun W => s_l01Finite (zs[j]).1 W)
      have HS2 := Lib.hid (fun W => s_l01Finite (zs[j]).2 W)
      clear hcell HCZ
      generalize zs[j] = X at *
      clear hj hlt
      obtain ⟨x1, x2⟩ := X
      have HAT2 : Hid (cfin (specAt xs j) = (fin .f32 x1 && fin .f32 x2)) := hat.symm
      clear hat
      replace HS1 : Hid (∀ W, Calls Try.prog 78 #[.float .f32 x1] W fun e w' => e = .returned (.bool (fin .f32 x1)) ∧ ∃ n, w' = W.drewN n) := HS1
      replace HS2 : Hid (∀ W, Calls Try.prog 78 #[.float .f32 x2] W fun e w' => e = .returned (.bool (fin .f32 x2)) ∧ ∃ n, w' = W.drewN n) := HS2
      cases hf1 : fin .f32 x1
      · rw [hf1] at HS1 HAT2
        have HG : Hid (specGood xs = false) := by show _ = _; unfold specGood; rw [finX_not (m := j) (by rw [← HZL.out]; exact HLT.out) (by rw [HAT2.out]; rfl), Bool.and_false]
        clear hf1
        go_wp2_with (go_at_call 78; (first | (with_reducible refine (HS1.out _).mono ?_) | (with_reducible refine (HS2.out _).mono ?_)); rintro e w' ⟨rfl, n, rfl⟩)
        go_ret2
        exact SpecOut.no HG.out (below_drewN HB1.out _)
      cases hf2 : fin .f32 x2
      · rw [hf1] at HS1 HAT2
        rw [hf2] at HS2 HAT2
        have HG : Hid (specGood xs = false) := by show _ = _; unfold specGood; rw [finX_not (m := j) (by rw [← HZL.out]; exact HLT.out) (by rw [HAT2.out]; rfl), Bool.and_false]
        clear hf1 hf2
        go_wp2_with (go_at_call 78; (first | (with_reducible refine (HS1.out _).mono ?_) | (with_reducible refine (HS2.out _).mono ?_)); rintro e w' ⟨rfl, n, rfl⟩)
        go_ret2
        exact SpecOut.no HG.out (below_drewN HB1.out _)
      · rw [hf1] at HS1 HAT2
        rw [hf2] at HS2 HAT2
        clear hf1 hf2
        go_wp2_with (go_at_call 78; (first | (with_reducible refine (HS1.out _).mono ?_) | (with_reducible refine (HS2.out _).mono ?_)); rintro e w' ⟨rfl, n, rfl⟩)
        go_roundw
        case rel =>
          refine ⟨j + 1, _, HLT.out, by go_num, ?_, rfl⟩
          show ∀ i, i < j + 1 → _
          intro i hi
          by_cases hij : i = j
          · subst hij; rw [HAT2.out]; rfl
          · exact hG.out i (by omega)
        case measure => have := HLT.out; simp [intOf]; omega
    · obtain rfl : j = zs.length := by omega
      have hall : finX (spectrum xs) = true := finX_of (fun i hi => hG.out i (by rw [HZL.out]; exact hi))
      have HG : Hid (specGood xs = true) := by show _ = _; unfold specGood; rw [HL.out, hall]; rfl
      have hzs : zs = spectrum xs := by
        refine List.ext_getElem (by rw [HZL.out, spectrum_length]) fun i h1 h2 => ?_
        have h3 := congrArg (fun l => l[i]?) hF.out
        simp only [List.getElem?_map, List.getElem?_eq_getElem h1, List.getElem?_eq_getElem h2, Option.map_some, Option.some.injEq] at h3
        have h4 := (List.all_eq_true.1 hall) _ (List.getElem_mem h2)
        unfold cfin at h4
        rw [Bool.and_eq_true] at h4
        exact Prod.ext (word_of (congrArg Prod.fst h3) h4.1) (word_of (congrArg Prod.snd h3) h4.2)
      have HZS := Lib.hid hzs
      clear hzs hall hj hlt
      go_wp2
      go_ret2
      refine SpecOut.ok HG.out ?_ (below_drewN HB1.out _)
      rw [← HZS.out]
      exact OX_below HO.out (below_drewN (Below.refl _ _) _)
end Go.Proofs.Ytmpmnhnobgidoaa
