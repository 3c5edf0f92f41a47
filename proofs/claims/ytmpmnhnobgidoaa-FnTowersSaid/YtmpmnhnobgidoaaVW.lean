/- Walks: answers and gains of towers, where all is finite. -/
import Derived.Test.YtmpmnhnobgidoaaVV
import Derived.Test.YtmpmnhnobgidoaaDP
import Derived.Laws.Cover3
import Derived.Laws.ComplexArith
import Derived.BigQuiet
namespace Go.Proofs.Ytmpmnhnobgidoaa
set_option linter.unusedSimpArgs false
set_option linter.unusedVariables false
open Go.RowKit Go.Fl Go.Lib

theorem run_finT {P : Program} {k : FloatKind} {op : BinOp} (t : TypeId) {x y : Nat} (h : fin k (fa op k x y) = true) : ∀ w, (binOp op t (.float k x) (.float k y)).run P w = .ok (.float k (fa op k x y)) w := by
  obtain ⟨q, hq⟩ := Rv.of_fin h
  exact run_arith t hq
theorem narr_bits_fin {x : Nat} (hx : fin .f64 x = true) (h : fin .f32 (narrow x) = true) : floatToFloatBits .f64 x .f32 = some (narrow x) := by
  obtain ⟨q, s, m, i, e1, -⟩ := Rv.of_fin hx
  obtain ⟨r, t, n, j, e2, -⟩ := Rv.of_fin h
  have e1' : FloatKind.f64.decode x = .number s m i := e1
  have hwd : narrow x = FloatKind.f32.encode (.number s m i) := by unfold narrow; rw [e1']
  unfold floatToFloatBits
  rw [if_neg (by decide), e1']
  simp only []
  rw [← hwd, show FloatKind.f32.decode (narrow x) = .number t n j from e2]
  rfl
/-- Sums and products that stay finite. -/
structure TimesOk (A B C D : Nat) : Prop where
  fa1 : fin .f32 A = true
  fb : fin .f32 B = true
  fc : fin .f32 C = true
  fd : fin .f32 D = true
  p1 : fin .f64 (fa .mul .f64 (widen A) (widen C)) = true
  p2 : fin .f64 (fa .mul .f64 (widen B) (widen D)) = true
  d : fin .f64 (fa .sub .f64 (fa .mul .f64 (widen A) (widen C)) (fa .mul .f64 (widen B) (widen D))) = true
  p3 : fin .f64 (fa .mul .f64 (widen A) (widen D)) = true
  p4 : fin .f64 (fa .mul .f64 (widen B) (widen C)) = true
  s : fin .f64 (fa .add .f64 (fa .mul .f64 (widen A) (widen D)) (fa .mul .f64 (widen B) (widen C))) = true
theorem widen_one : widen 1065353216 = ONE := by decide +kernel
theorem widen_nil : widen 0 = 0 := by decide +kernel
theorem AnsOk.times {m d s r : Nat} (h : AnsOk m d s r) : TimesOk 1065353216 0 (axW m s r) (nyW d r) := by
  refine ⟨by decide +kernel, by decide +kernel, h.fax, h.fny, ?_, ?_, ?_, ?_, ?_, ?_⟩
  all_goals simp only [widen_one, widen_nil]
  · exact h.fk1
  · exact h.fk2
  · exact h.ftA
  · exact h.fk3
  · exact h.fk4
  · exact h.ftB
theorem wide_fin (x : Nat) (h : fin .f32 x = true) : ∀ w : World, (convert 26 37 (.float .f32 x)).run Try.prog w = .ok (.float .f64 (widen x)) w := by
  obtain ⟨q, hq⟩ := Rv.of_fin h
  exact run_wide (by kernel_rfl) Try.underlying37 hq
theorem narr_fin (x : Nat) (hx : fin .f64 x = true) (h : fin .f32 (narrow x) = true) : ∀ w : World, (convert 37 26 (.float .f64 x)).run Try.prog w = .ok (.float .f32 (narrow x)) w := fun w =>
  run_convert_float_float w 37 26 .f64 .f32 x _ (by kernel_rfl) Try.underlying26 (narr_bits_fin hx h)
theorem i_ConjugateOf (a b : Nat) (w : World) : Calls Try.prog 96 #[.complex .f32 a b] w fun e w' => e = .returned (.complex .f32 a (Op.negFloat .f32 b)) ∧ ∃ n, w' = w.drewN n := by
  have hopp : ∀ x, Op.unary .neg (.float .f32 x) = pure (.float .f32 (Op.negFloat .f32 x)) := fun _ => rfl
  go_enter Try.func96, Try.ntmps96
  go_wp2
  go_ret
  exact ⟨rfl, 0, rfl⟩
theorem i_times (A B C D : Nat) (h : TimesOk A B C D) (w : World) : Calls Try.prog 95 #[.complex .f32 A B, .complex .f32 C D] w fun e w' => e = .returned (.tuple #[.float .f64 (fa .sub .f64 (fa .mul .f64 (widen A) (widen C)) (fa .mul .f64 (widen B) (widen D))), .float .f64 (fa .add .f64 (fa .mul .f64 (widen A) (widen D)) (fa .mul .f64 (widen B) (widen C)))]) ∧ ∃ n, w' = w.drewN n := by
  have r1 := wide_fin A h.fa1
  have r2 := wide_fin B h.fb
  have r3 := wide_fin C h.fc
  have r4 := wide_fin D h.fd
  have r5 := run_finT (P := Try.prog) 37 h.p1
  have r6 := run_finT (P := Try.prog) 37 h.p2
  have r7 := run_finT (P := Try.prog) 37 h.d
  have r8 := run_finT (P := Try.prog) 37 h.p3
  have r9 := run_finT (P := Try.prog) 37 h.p4
  have r10 := run_finT (P := Try.prog) 37 h.s
  clear h
  go_enter Try.func95, Try.ntmps95
  go_wp2
  go_ret2
  exact ⟨rfl, 0, rfl⟩
theorem i_powerT (a b : Nat) (ha : fin .f32 a = true) (hb : fin .f32 b = true) (h1 : fin .f64 (sq1 a) = true) (h2 : fin .f64 (sq1 b) = true) (h3 : fin .f64 (pwW a b) = true) (w : World) : Calls Try.prog 94 #[.complex .f32 a b] w fun e w' => e = .returned (.float .f64 (pwW a b)) ∧ ∃ n, w' = w.drewN n := by
  have r1 := wide_fin a ha
  have r2 := wide_fin b hb
  have r3 := run_finT (P := Try.prog) (k := .f64) (op := .mul) (x := widen a) (y := widen a) 37 h1
  have r4 := run_finT (P := Try.prog) (k := .f64) (op := .mul) (x := widen b) (y := widen b) 37 h2
  have r5 := run_finT (P := Try.prog) (k := .f64) (op := .add) (x := sq1 a) (y := sq1 b) 37 h3
  have e1 : fa .mul .f64 (widen a) (widen a) = sq1 a := rfl
  have e2 : fa .mul .f64 (widen b) (widen b) = sq1 b := rfl
  have e3 : fa .add .f64 (sq1 a) (sq1 b) = pwW a b := rfl
  rw [e1] at r3
  rw [e2] at r4
  rw [e3] at r5
  clear ha hb h1 h2 h3 e1 e2 e3
  generalize pwW a b = R at *
  generalize sq1 a = M1 at *
  generalize sq1 b = M2 at *
  go_enter Try.func94, Try.ntmps94
  go_wp2
  go_ret
  exact ⟨rfl, 0, rfl⟩
theorem i_QuotientOf (m d s r : Nat) (h : AnsOk m d s r) (w : World) : Calls Try.prog 68 #[.complex .f32 1065353216 0, .complex .f32 (axW m s r) (ayW d r)] w fun e w' => e = .returned (.complex .f32 (ansRe m d s r) (ansIm m d s r)) ∧ ∃ n, w' = w.drewN n := by
  have HC := Lib.hid (fun W => i_ConjugateOf (axW m s r) (ayW d r) W)
  have en : Op.negFloat .f32 (ayW d r) = nyW d r := rfl
  rw [en] at HC
  have HT := Lib.hid (fun W => i_times _ _ _ _ h.times W)
  simp only [widen_one, widen_nil] at HT
  replace HT : Hid (∀ W, Calls Try.prog 95 #[.complex .f32 1065353216 0, .complex .f32 (axW m s r) (nyW d r)] W fun e w' => e = .returned (.tuple #[.float .f64 (tAW m d s r), .float .f64 (tBW m d s r)]) ∧ ∃ n, w' = W.drewN n) := HT
  have HP := Lib.hid (fun W => i_powerT (axW m s r) (ayW d r) h.fax h.fay h.fx2 h.fy2 h.fpY W)
  replace HP : Hid (∀ W, Calls Try.prog 94 #[.complex .f32 (axW m s r) (ayW d r)] W fun e w' => e = .returned (.float .f64 (pYW m d s r)) ∧ ∃ n, w' = W.drewN n) := HP
  have r1 := run_finT (P := Try.prog) (k := .f64) (op := .quo) (x := tAW m d s r) (y := pYW m d s r) 37 h.fqA
  have r2 := run_finT (P := Try.prog) (k := .f64) (op := .quo) (x := tBW m d s r) (y := pYW m d s r) 37 h.fqB
  have r3 := narr_fin (qAW m d s r) h.fqA h.fre
  have r4 := narr_fin (qBW m d s r) h.fqB h.fim
  have e1 : fa .quo .f64 (tAW m d s r) (pYW m d s r) = qAW m d s r := rfl
  have e2 : fa .quo .f64 (tBW m d s r) (pYW m d s r) = qBW m d s r := rfl
  have e3 : narrow (qAW m d s r) = ansRe m d s r := rfl
  have e4 : narrow (qBW m d s r) = ansIm m d s r := rfl
  rw [e1] at r1
  rw [e2] at r2
  rw [e3] at r3
  rw [e4] at r4
  clear h e1 e2 e3 e4 en
  generalize ansRe m d s r = RE at *
  generalize ansIm m d s r = IM at *
  generalize qAW m d s r = QA at *
  generalize qBW m d s r = QB at *
  generalize tAW m d s r = TA at *
  generalize tBW m d s r = TB at *
  generalize pYW m d s r = PY at *
  generalize axW m s r = X at *
  generalize ayW d r = Y at *
  generalize nyW d r = NY at *
  go_enter Try.func68, Try.ntmps68
  go_wp2_with fail
  refine (HC.out _).mono ?_
  rintro e w1 ⟨rfl, n1, rfl⟩
  go_wp2_with fail
  refine (HT.out _).mono ?_
  rintro e w2 ⟨rfl, n2, rfl⟩
  go_wp2_with fail
  refine (HP.out _).mono ?_
  rintro e w3 ⟨rfl, n3, rfl⟩
  go_wp2
  go_ret
  exact ⟨rfl, _, rfl⟩
theorem i_IsFiniteComplexT (a b : Nat) (ha : fin .f32 a = true) (hb : fin .f32 b = true) (w : World) : Calls Try.prog 69 #[.complex .f32 a b] w fun e w' => e = .returned (.bool true) ∧ Below w.heap.size w w' := by
  go_enter Try.func69, Try.ntmps69
  go_wp2_with (go_at_call 52; refine (i_areFinite _ [a, b] _ (RF_top2 _ _ (by simp) _ _ _)).mono ?_; rintro e w' ⟨rfl, n, rfl⟩)
  go_ret
  exact ⟨by unfold finAll; simp [ha, hb], (by repeat (first | exact Below.refl _ _ | assumption | refine below_drewN ?_ _ | refine below_alloc (Nat.le_refl _) ?_ _ | (refine Below.setCell ?_ (by first | exact Nat.le_refl _ | (simp; done) | (simp; omega) | omega) _) | (refine below_step (Nat.le_refl _) ?_ (by assumption))))⟩
set_option maxHeartbeats 1000000 in
theorem i_AnswerOf (m d s r : Nat) (ht : towerOk m d s = true) (h : AnsOk m d s r) (w : World) : Calls Try.prog 29 #[tow m d s, .float .f32 r] w fun e w' => e = .returned (.tuple #[.complex .f32 (ansRe m d s r) (ansIm m d s r), .bool true]) ∧ Below w.heap.size w w' := by
  have HV := Lib.hid (fun W => i_ValidTower m d s W)
  rw [ht] at HV
  have HQ := Lib.hid (fun W => i_QuotientOf m d s r h W)
  have HIF := Lib.hid (fun W => i_IsFiniteComplexT (ansRe m d s r) (ansIm m d s r) h.fre h.fim W)
  have HAB := Lib.hid h.fr
  have r1 := run_finT (P := Try.prog) (k := .f32) (op := .mul) (x := 1086918619) (y := r) 26 h.faw
  have r2 := run_finT (P := Try.prog) (k := .f32) (op := .mul) (x := m) (y := awW r) 26 h.fb1
  have r3 := run_finT (P := Try.prog) (k := .f32) (op := .mul) (x := b1W m r) (y := awW r) 26 h.fb2
  have r4 := run_finT (P := Try.prog) (k := .f32) (op := .sub) (x := s) (y := b2W m r) 26 h.fax
  have r5 := run_finT (P := Try.prog) (k := .f32) (op := .mul) (x := d) (y := awW r) 26 h.fay
  have e1 : fa .mul .f32 1086918619 r = awW r := rfl
  have e2 : fa .mul .f32 m (awW r) = b1W m r := rfl
  have e3 : fa .mul .f32 (b1W m r) (awW r) = b2W m r := rfl
  have e4 : fa .sub .f32 s (b2W m r) = axW m s r := rfl
  have e5 : fa .mul .f32 d (awW r) = ayW d r := rfl
  rw [e1] at r1
  rw [e2] at r2
  rw [e3] at r3
  rw [e4] at r4
  rw [e5] at r5
  clear h e1 e2 e3 e4 e5 ht
  generalize ansRe m d s r = RE at *
  generalize ansIm m d s r = IM at *
  generalize axW m s r = X at *
  generalize ayW d r = Y at *
  generalize b2W m r = B2 at *
  generalize b1W m r = B1 at *
  generalize awW r = AW at *
  go_enter Try.func29, Try.ntmps29
  go_wp2_with (first | (go_at_call 30; refine (HV.out _).mono ?_; rintro e w' ⟨rfl, hb⟩; have hT := TowAt.below (b := w.heap.size) (m := m) (d := d) (s := s) (by first | exact tow_top _ _ (by simp) _ _ _ _ | exact ⟨by assumption, by assumption, by assumption⟩) hb (by first | (simp; done) | exact block_lt_of_cell (by assumption)); obtain ⟨c0, c1, c2⟩ := hT; have hz : w.heap.size < _ := block_lt_of_cell c0; have k0 := cell_alloc_keep c0; have k1 := cell_alloc_keep c1; have k2 := cell_alloc_keep c2) | (go_at_call 57; refine (i_arePositive _ [r] _ (RF_top1 _ _ (by simp) _ _)).mono ?_; rintro e w' ⟨rfl, n, rfl⟩; rw [show aboveAll [r] = true by unfold aboveAll; simp [HAB.out]]))
  refine (HQ.out _).mono ?_
  rintro e w3 ⟨rfl, n3, rfl⟩
  go_wp2_with fail
  refine (HIF.out _).mono ?_
  rintro e w4 ⟨rfl, hb4⟩
  go_wp2
  go_ret2
  exact ⟨rfl, below_step (Nat.le_refl _) (by repeat (first | exact Below.refl _ _ | assumption | refine below_drewN ?_ _ | refine below_alloc (Nat.le_refl _) ?_ _ | (refine Below.setCell ?_ (by first | exact Nat.le_refl _ | (simp; done) | (simp; omega) | omega) _) | (refine below_step (Nat.le_refl _) ?_ (by assumption)))) hb4⟩
theorem f_SqrtT (x : Nat) (h : fin .f64 (rt .f64 x) = true) (w : World) : Calls Try.prog 51 #[.float .f64 x] w fun e w' => e = .returned (.float .f64 (rt .f64 x)) ∧ ∃ n, w' = w.drewN n := by
  refine (f_Sqrt x w).mono ?_
  rintro e w' ⟨r, rfl, hr, hn⟩
  obtain ⟨q, hq⟩ := Rv.of_fin h
  exact ⟨by rw [cn_is hr hq], hn⟩
theorem i_LongOf (m d s r : Nat) (h : AnsOk m d s r) (w : World) : Calls Try.prog 67 #[.complex .f32 (ansRe m d s r) (ansIm m d s r)] w fun e w' => e = .returned (.float .f32 (gainW m d s r)) ∧ ∃ n, w' = w.drewN n := by
  have HP := Lib.hid (fun W => i_powerT (ansRe m d s r) (ansIm m d s r) h.fre h.fim h.fg1 h.fg2 h.fgp W)
  replace HP : Hid (∀ W, Calls Try.prog 94 #[.complex .f32 (ansRe m d s r) (ansIm m d s r)] W fun e w' => e = .returned (.float .f64 (gpW m d s r)) ∧ ∃ n, w' = W.drewN n) := HP
  have HS := Lib.hid (fun W => f_SqrtT (gpW m d s r) h.fgr W)
  replace HS : Hid (∀ W, Calls Try.prog 51 #[.float .f64 (gpW m d s r)] W fun e w' => e = .returned (.float .f64 (grW m d s r)) ∧ ∃ n, w' = W.drewN n) := HS
  have r1 := narr_fin (grW m d s r) h.fgr h.fgn
  have e1 : narrow (grW m d s r) = gainW m d s r := rfl
  rw [e1] at r1
  clear h e1
  generalize gainW m d s r = G at *
  generalize grW m d s r = GR at *
  generalize gpW m d s r = GP at *
  generalize ansRe m d s r = RE at *
  generalize ansIm m d s r = IM at *
  go_enter Try.func67, Try.ntmps67
  go_wp2_with fail
  refine (HP.out _).mono ?_
  rintro e w1 ⟨rfl, n1, rfl⟩
  go_wp2_with fail
  refine (HS.out _).mono ?_
  rintro e w2 ⟨rfl, n2, rfl⟩
  go_wp2
  go_ret
  exact ⟨rfl, _, rfl⟩
theorem i_GainOf (m d s r : Nat) (ht : towerOk m d s = true) (h : AnsOk m d s r) (w : World) : Calls Try.prog 28 #[tow m d s, .float .f32 r] w fun e w' => e = .returned (.tuple #[.float .f32 (gainW m d s r), .bool true]) ∧ Below w.heap.size w w' := by
  have HA := Lib.hid (fun W => i_AnswerOf m d s r ht h W)
  have HL := Lib.hid (fun W => i_LongOf m d s r h W)
  have HC := Lib.hid (fun W => i_checked (gainW m d s r) W)
  have hn : num (gainW m d s r) = gainW m d s r := by unfold num; rw [h.fgn]; rfl
  rw [h.fgn, hn] at HC
  clear h ht hn
  generalize gainW m d s r = G at *
  generalize ansRe m d s r = RE at *
  generalize ansIm m d s r = IM at *
  go_enter Try.func28, Try.ntmps28
  go_wp2_with fail
  refine (HA.out _).mono ?_
  rintro e w1 ⟨rfl, hb1⟩
  go_wp2_with fail
  refine (HL.out _).mono ?_
  rintro e w2 ⟨rfl, n2, rfl⟩
  go_wp2_with fail
  refine (HC.out _).mono ?_
  rintro e w3 ⟨rfl, n3, rfl⟩
  go_wp2
  go_ret2
  exact ⟨rfl, by repeat (first | refine below_drewN ?_ _ | exact below_step (Nat.le_refl _) (by repeat (first | exact Below.refl _ _ | assumption | refine below_drewN ?_ _ | refine below_alloc (Nat.le_refl _) ?_ _ | (refine Below.setCell ?_ (by first | exact Nat.le_refl _ | (simp; done) | (simp; omega) | omega) _) | (refine below_step (Nat.le_refl _) ?_ (by assumption)))) hb1)⟩
end Go.Proofs.Ytmpmnhnobgidoaa
