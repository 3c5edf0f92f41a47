/- For every input the law FnExactReadAir answers true. -/
import Derived.Test.YtpkkgfjjnggijaaDoorRF
import Derived.Test.YtpkkgfjjnggijaaDoorTP
import Derived.Test.YtpkkgfjjnggijaaDoorTie
import Derived.Test.YtpkkgfjjnggijaaDoorCards
import Derived.Stop.LaidErr
namespace Go.Proofs.YtpkkgfjjnggijaaDoor
set_option linter.unusedSimpArgs false
set_option linter.unusedVariables false
open Go.ChangeShapes Go.WideShapes Go.ChangeAt Go.RowKit Go.Fl Go.Tx Go.Lib

set_option maxHeartbeats 1000000 in
theorem l_eqAir (a b c d : Nat) (w : World) : Calls Tryd.prog 8 #[air a b c d, air a b c d] w fun e w' => e = .returned (.bool true) ∧ Below w.heap.size w w' := by
  have H1' := hrfl (cn .f32 a)
  have H2' := hrfl (cn .f32 b)
  have H3' := hrfl (cn .f32 c)
  have H4' := hrfl (cn .f32 d)
  go_enter Tryd.func8, Tryd.ntmps8
  go_wp2_with (first | (refine wpList_widen (dst := 46) rfl rfl rfl (by kernel_rfl) (by exact Tryd.underlying46) (by first | assumption | exact hrfl _) ?_; intro r n hr) | (go_at_call 22; refine (l_sameFloat _ _ (Eq.trans (Hid.out (by assumption)) (Eq.symm (Hid.out (by assumption)))) _).mono ?_; rintro e w' ⟨rfl, n, rfl⟩))
  go_ret
  exact ⟨rfl, (by repeat (first | exact Below.refl _ _ | assumption | refine below_drewN ?_ _ | refine below_alloc (Nat.le_refl _) ?_ _ | (refine Below.setCell ?_ (by first | exact Nat.le_refl _ | (simp; done) | (simp; omega) | omega) _) | (refine below_step (Nat.le_refl _) ?_ (by assumption))))⟩
theorem airVal_eq (x : Option (Nat × Nat × Nat × Nat)) : ∃ a b c d, airVal x = air a b c d := by
  cases x with
  | none => exact ⟨0, 0, 0, 0, rfl⟩
  | some x => obtain ⟨a, b, c, d⟩ := x; exact ⟨a, b, c, d, rfl⟩
set_option maxHeartbeats 2000000 in
theorem l_FnExactReadAir (s : ByteArray) (w : World) (hg : RG w) :
    Calls Tryd.prog 3 #[.string s] w fun e w' => e = .returned (.bool true) ∧ Below w.heap.size w w' := by
  have HG := Lib.hid hg
  clear hg
  by_cases hl : s.size ≤ 1048576
  case neg =>
    go_enter Tryd.func3, Tryd.ntmps3
    go_wp2
    go_ret
    exact ⟨rfl, (by repeat (first | exact Below.refl _ _ | assumption | refine below_drewN ?_ _ | refine below_alloc (Nat.le_refl _) ?_ _ | (refine Below.setCell ?_ (by first | exact Nat.le_refl _ | (simp; done) | (simp; omega) | omega) _) | (refine below_step (Nat.le_refl _) ?_ (by assumption))))⟩
  have H1 := Lib.hid (fun W => s_ReadAir s hl W)
  have H2 := Lib.hid (fun W hg => i_ReadAir s hl W hg)
  have H3 := Lib.hid (fun a b c d W => l_eqAir a b c d W)
  obtain ⟨a, b, c, d, hv⟩ := airVal_eq (airOf s)
  obtain ⟨r, hr⟩ : ∃ r, (airOf s).isSome = r := ⟨_, rfl⟩
  have HR := Lib.hid (fun e W W' (h : AirRd s W e W') => (show e = .returned (.tuple #[air a b c d, .bool r]) ∧ Below W.heap.size W W' by rw [← hv, ← hr]; exact h))
  clear hv hr
  go_enter Tryd.func3, Tryd.ntmps3
  go_wp2_with fail
  refine (H1.out _).mono ?_
  intro e w1 h
  obtain ⟨rfl, hb⟩ := HR.out _ _ _ h
  clear h
  have B1 := Lib.hid hb
  clear hb
  go_wp2_with fail
  obtain ⟨w2, hw2⟩ : ∃ w2, w2 = w1.alloc (.cells #[.float .f32 a, .float .f32 b, .float .f32 c, .float .f32 d] 24) := ⟨_, rfl⟩
  have B2 : Hid (Below w.heap.size w w2) := by rw [hw2]; exact below_alloc (Nat.le_refl _) B1.out _
  have A2 : Hid (AirAt w2 w1.heap.size a b c d) := by rw [hw2]; exact air_top w1 _ rfl a b c d _
  rw [← hw2]
  clear hw2
  refine (H2.out _ (HG.out.below B2.out)).mono ?_
  intro e w3 h
  obtain ⟨rfl, hb⟩ := HR.out _ _ _ h
  clear h
  have B3 := Lib.hid (below_step (Nat.le_refl _) B2.out hb)
  have A3 := Lib.hid (A2.out.below hb)
  clear hb A2 B2
  obtain ⟨g, hg⟩ : ∃ g, g = w1.heap.size := ⟨_, rfl⟩
  rw [← hg] at A3
  rw [← hg]
  clear hg
  obtain ⟨c0, c1, c2, c3⟩ := A3.out.below (below_alloc (Nat.le_refl _) (Below.refl _ _) (.cells #[.float .f32 a, .float .f32 b, .float .f32 c, .float .f32 d] 24))
  clear H1 H2 HR HG A3
  go_wp2_with fail
  obtain ⟨w4, hw4⟩ : ∃ w4, w4 = w3.alloc (.cells #[.float .f32 a, .float .f32 b, .float .f32 c, .float .f32 d] 24) := ⟨_, rfl⟩
  have B4 : Hid (Below w.heap.size w w4) := by rw [hw4]; exact below_alloc (Nat.le_refl _) B3.out _
  rw [← hw4]
  clear hw4 c0 c1 c2 c3 B3 B1
  refine (H3.out a b c d w4).mono ?_
  rintro e w5 ⟨rfl, hb⟩
  have B5 := Lib.hid (below_step (Nat.le_refl _) B4.out hb)
  clear hb B4 H3
  have hrr : (r != r) = false := by cases r <;> rfl
  go_wp2
  go_ret
  exact ⟨rfl, by repeat (first | with_reducible exact B5.out | refine Below_drewR ?_ | refine below_drewN ?_ _)⟩
theorem RG_of_laidA {W : World} (h : laidMetH Tryd.prog Rows.fnExactReadAirRow.laid W) (hsh : W.ShapedOpen Tryd.prog) : RG W := by
  rw [MakeChecks.laidMetH_plain _ _ _ (by kernel_rfl)] at h
  refine ⟨?_, ?_, Tryd.laysM146.s1_3 W hsh, ?_⟩
  · exact err_of_head (g := 1) (t := 71) (by kernel_rfl) (by kernel_rfl) Tryd.underlying71 h.tail.tail.tail.tail.tail
  · exact err_of_head (g := 2) (t := 71) (by kernel_rfl) (by kernel_rfl) Tryd.underlying71 h.tail.tail.tail.tail
  · exact Lib.tabIs_of_head (g := 8) (t := 148) (e := 5) (n := 64) (rest := _) (by kernel_rfl) (by kernel_rfl) (by kernel_rfl) (by kernel_rfl) (by kernel_rfl) (by kernel_rfl) h.tail
set_option maxRecDepth 100000 in
theorem FnExactReadAir_lifted (os : Os) (started : os.Started) (H : Type) (enc : TypeId × Value → H) :
    ReturnsInHanded {} Tryd.checked os 3 .any (fun w args => (Rows.fnExactReadAirSpec.pre enc Tryd.prog Tryd.f3 [] false w args ∧ laidMetH Tryd.prog Rows.fnExactReadAirRow.laid w) ∧ sizedMet enc Tryd.prog Tryd.f3 (OpenSpec.ofChange Rows.fnExactReadAirSpec) false w args)
      (Rows.fnExactReadAirSpec.post enc Tryd.prog Tryd.f3 false true false false) := by
  refine handed_laid_shaped (C := Tryd.checked) (X := fun w _ => laidMetH Tryd.prog Rows.fnExactReadAirRow.laid w) (fun _ _ _ hh h => h.of_heap hh) Tryd.own started (by kernel_rfl) Tryd.func3
    (ChangeSpec.witness_shaped (enc := enc) (C := Tryd.checked) (os := os) (X := fun w _ => laidMetH Tryd.prog Rows.fnExactReadAirRow.laid w) false (World.laidAll Tryd.prog os Rows.fnExactReadAirRow.laid) #[.string ByteArray.empty] 8 (World.laidAll_os _ _ _)
      (World.shaped_of_ZipB (by kernel_rfl) (by kernel_rfl)) (by kernel_rfl) (by kernel_rfl) (by kernel_rfl)
      (by rw [MakeChecks.laidMetH_plain _ _ _ (by kernel_rfl)]; exact laidMet_laidAll _ (by kernel_rfl) (by kernel_rfl))) ?_
  intro W base args ds gs before hval0 hW _ _ hX hsh _
  have hval : ∀ (j : Nat) t v, Tryd.f3.params[j]? = some t → args[j]? = some v → Value.okWide Tryd.prog W .any base t v := hval0
  have hW' := hW
  obtain ⟨p, q, hA0, hV, rfl, hfz, hnd⟩ := hW
  have hA : DataW.TrodAll enc Tryd.prog W 0 (fun _ => true) true Tryd.f3.params.toList args.toList ds p := hA0
  rw [Tryd.params3] at hA hval
  obtain ⟨rfl, rfl⟩ := trodVars_none hV
  obtain ⟨v0, vs0, d0, ds0, p0, q0, ha0, rfl, rfl, h0, r0⟩ := trodAll_cons hA
  obtain ⟨rfl, rfl, rfl⟩ := trodAll_nil r0
  obtain rfl : args = #[v0] := by apply Array.ext'; exact ha0
  obtain ⟨s, rfl, -, -, -⟩ := Go.ChangeMaps.open_string Tryd.underlying9 (hval 0 9 v0 rfl rfl) h0
  refine (l_FnExactReadAir s W (RG_of_laidA hX hsh)).mono fun e W' ⟨he, hb⟩ => ?_
  subst he
  exact ⟨_, rfl, post_law Tryd.laidOut (by as_aux_lemma => kernel_rfl) rfl Tryd.underlying4 hW' rfl ⟨rfl, rfl, rfl⟩ hb⟩

theorem FnExactReadAir_row : Rows.FnExactReadAirSaid :=
  OpenClaim.holds_of_wide 3 Tryd.f3 rfl rfl rfl rfl rfl rfl rfl ⟨rfl, rfl, rfl, rfl, rfl⟩ rfl rfl rfl rfl rfl (by as_aux_lemma => kernel_rfl) Tryd.func3 (by as_aux_lemma => kernel_rfl)
    (of_decide_eq_true (by as_aux_lemma => kernel_rfl)) (by unfold Func.isWrapper; rw [if_neg (of_decide_eq_false (by as_aux_lemma => kernel_rfl))]; exact ⟨rfl, rfl⟩)
    (fun os started H enc _ => FnExactReadAir_lifted os started H enc)

theorem FnExactReadAir_holds : Rows.FnExactReadAirCardSaid :=
  Claim7.holds_tied_plain_at .later [] Rows.fnExactReadAirCard.laidKinds true Rows.fnExactReadAirCard.stood.harness true
    FnExactReadAir_row (fun _ h => by cases h) (by kernel_rfl) (fun _ h => by cases h) fnExactReadAir_row_tie rfl ⟨rfl, rfl⟩ (by kernel_rfl) rfl
    (fun f fn hf hfn => by
      obtain rfl : f = 3 := Option.some.inj ((show Tryd.prog.funcNamed "loop.example/g01256/laws.FnExactReadAir" = some 3 by kernel_rfl).symm.trans hf) |>.symm
      obtain rfl : fn = Tryd.f3 := (Option.some.inj (Tryd.func3.symm.trans hfn)).symm
      exact ⟨by kernel_rfl, fun j t ht => by
        rw [Tryd.params3] at ht
        have hm : t ∈ [9] := by simpa using Array.mem_of_getElem? ht
        have hall : ([9].all fun u => !Tryd.prog.wantsStandIn u) = true := by kernel_rfl
        exact (show Tryd.prog.wantsStandIn t = false by simpa using List.all_eq_true.1 hall t hm)⟩)
    (by kernel_rfl)
end Go.Proofs.YtpkkgfjjnggijaaDoor
