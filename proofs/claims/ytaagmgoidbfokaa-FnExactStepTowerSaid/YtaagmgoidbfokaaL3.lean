/- For every input the law FnExactStepTower answers true. -/
import Derived.Test.YtaagmgoidbfokaaB
import Derived.Test.YtaagmgoidbfokaaP
namespace Go.Proofs.Ytaagmgoidbfokaa
open Go.ChangeShapes Go.WideShapes Go.ChangeAt Go.RowKit Go.Joins Go.Deep Go.Fl

set_option maxHeartbeats 400000 in
theorem l_FnExactStepTower (m d s p v f t : Nat) (w : World) : Calls Try.prog 5 #[tow m d s, .float .f32 p, .float .f32 v, .float .f32 f, .float .f32 t] w fun e w' => e = .returned (.bool true) ∧ Below w.heap.size w w' := by
  go_enter Try.func5, Try.ntmps5
  go_wp2_with (first | (go_at_call 10; refine (l_toTower _ _ _ _).mono ?_; rintro e w' ⟨rfl, hb⟩; have hT := TowAt.below (b := w.heap.size) (m := m) (d := d) (s := s) (by first | exact tow_top _ _ (by simp) _ _ _ _ | exact ⟨by assumption, by assumption, by assumption⟩) hb (by first | (simp; done) | exact block_lt_of_cell (by assumption)); obtain ⟨c0, c1, c2⟩ := hT; have hz : w.heap.size < _ := block_lt_of_cell c0) | (go_at_call 15; refine (s_StepTower _ _ _ _ _ _ _ _).mono ?_; rintro e w' ⟨r, q, rfl, hr, hq, hb⟩; have hT := TowAt.below (b := w.heap.size) (m := m) (d := d) (s := s) (by first | exact tow_top _ _ (by simp) _ _ _ _ | exact ⟨by assumption, by assumption, by assumption⟩) hb (by first | (simp; done) | exact block_lt_of_cell (by assumption)); obtain ⟨c0, c1, c2⟩ := hT; have hz : w.heap.size < _ := block_lt_of_cell c0; have hr' := Lib.hid hr; have hq' := Lib.hid hq; clear hr hq) | (go_at_call 16; refine (i_StepTower _ _ _ _ _ _ _ _).mono ?_; rintro e w' ⟨r, q, rfl, hr, hq, hb⟩; have hT := TowAt.below (b := w.heap.size) (m := m) (d := d) (s := s) (by first | exact tow_top _ _ (by simp) _ _ _ _ | exact ⟨by assumption, by assumption, by assumption⟩) hb (by first | (simp; done) | exact block_lt_of_cell (by assumption)); obtain ⟨c0, c1, c2⟩ := hT; have hz : w.heap.size < _ := block_lt_of_cell c0; have hr' := Lib.hid hr; have hq' := Lib.hid hq; clear hr hq) | (refine wpList_widen rfl rfl rfl rfl Try.underlying32 (by first | assumption | exact hrfl _) ?_; intro r n hr) | (go_at_call 14; refine (l_sameFloat _ _ (Eq.trans (Hid.out (by assumption)) (Eq.symm (Hid.out (by assumption)))) _).mono ?_; rintro e w' ⟨rfl, n, rfl⟩))
  go_ret
  exact ⟨rfl, (by repeat (first | exact Below.refl _ _ | assumption | refine below_drewN ?_ _ | refine below_alloc (Nat.le_refl _) ?_ _ | (refine Below.setCell ?_ (by first | exact Nat.le_refl _ | (simp; done) | (simp; omega) | omega) _) | (refine below_step (Nat.le_refl _) ?_ (by assumption))))⟩

set_option maxRecDepth 100000 in
theorem FnExactStepTower_lifted (os : Os) (started : os.Started) (H : Type) (enc : TypeId × Value → H) :
    ReturnsInHanded {} Try.checked os 5 .any (Rows.fnExactStepTowerSpec.pre6 enc Try.prog Try.f5 Rows.fnExactStepTowerRow.domain false) (Rows.fnExactStepTowerSpec.post enc Try.prog Try.f5 false true false false) := by
  refine returnsInHanded_of_change_sized (C := Try.checked) Try.own started (by as_aux_lemma => kernel_rfl) Try.func5
    (ChangeSpec.witness6 (enc := enc) (C := Try.checked) false ⟨#[], #[.agg #[.float .f32 0, .float .f32 0, .float .f32 0], .float .f32 0, .float .f32 0, .float .f32 0, .float .f32 0], []⟩ 8 (by as_aux_lemma => kernel_rfl) (by as_aux_lemma => kernel_rfl) (by as_aux_lemma => kernel_rfl) (by as_aux_lemma => kernel_rfl)) ?_
  intro W base args ds gs before hval0 hW hcnd0 hsz0 _
  have hval : ∀ (j : Nat) t v, Try.f5.params[j]? = some t → args[j]? = some v → Value.okWide Try.prog W .any base t v := hval0
  have hsz : (DataW.weightsEach Try.prog (Try.f5.params.toList ++ Rows.fnExactStepTowerSpec.plain.varTypes Try.prog) (ds ++ gs)).all (· ≤ reachBytes) = true := hsz0
  have hW' := hW
  obtain ⟨p, q, hA0, hV, rfl, hfz, hnd⟩ := hW
  have hA : DataW.TrodAll enc Try.prog W 0 (fun _ => true) true Try.f5.params.toList args.toList ds p := hA0
  rw [Try.params5] at hA hval hsz
  obtain ⟨rfl, rfl⟩ := trodVars_none hV
  obtain ⟨v0, vs0, d0, ds0, p0, q0, ha0, rfl, rfl, h0, r0⟩ := trodAll_cons hA
  obtain ⟨v1, vs1, d1, ds1, p1, q1, rfl, rfl, rfl, h1, r1⟩ := trodAll_cons r0
  obtain ⟨v2, vs2, d2, ds2, p2, q2, rfl, rfl, rfl, h2, r2⟩ := trodAll_cons r1
  obtain ⟨v3, vs3, d3, ds3, p3, q3, rfl, rfl, rfl, h3, r3⟩ := trodAll_cons r2
  obtain ⟨v4, vs4, d4, ds4, p4, q4, rfl, rfl, rfl, h4, r4⟩ := trodAll_cons r3
  obtain ⟨rfl, rfl, rfl⟩ := trodAll_nil r4
  obtain rfl : args = #[v0, v1, v2, v3, v4] := by apply Array.ext'; exact ha0
  obtain ⟨t_m, t_d, t_s, rfl⟩ := open_tow (hval 0 24 v0 rfl rfl) h0
  obtain ⟨x, rfl, rfl, -, -⟩ := open_float Try.underlying22 (hval 1 22 v1 rfl rfl) h1
  obtain ⟨y, rfl, rfl, -, -⟩ := open_float Try.underlying22 (hval 2 22 v2 rfl rfl) h2
  obtain ⟨z, rfl, rfl, -, -⟩ := open_float Try.underlying22 (hval 3 22 v3 rfl rfl) h3
  obtain ⟨k, rfl, rfl, -, -⟩ := open_float Try.underlying22 (hval 4 22 v4 rfl rfl) h4
  refine (l_FnExactStepTower t_m t_d t_s x y z k W).mono fun e W' ⟨he, hb⟩ => ?_
  subst he
  exact ⟨_, rfl, post_law Try.laidOut (by as_aux_lemma => kernel_rfl) rfl Try.underlying4 hW' rfl ⟨rfl, rfl, rfl⟩ hb⟩

theorem FnExactStepTower_holds : Rows.FnExactStepTowerSaid :=
  OpenClaim.holds_of_wide 5 Try.f5 rfl rfl rfl rfl rfl rfl rfl ⟨rfl, rfl, rfl, rfl, rfl⟩ rfl rfl rfl rfl rfl (by as_aux_lemma => kernel_rfl) Try.func5 (by as_aux_lemma => kernel_rfl)
    (of_decide_eq_true (by as_aux_lemma => kernel_rfl)) (by unfold Func.isWrapper; rw [if_neg (of_decide_eq_false (by as_aux_lemma => kernel_rfl))]; exact ⟨rfl, rfl⟩)
    (fun os started H enc _ => FnExactStepTower_lifted os started H enc)
end Go.Proofs.Ytaagmgoidbfokaa
