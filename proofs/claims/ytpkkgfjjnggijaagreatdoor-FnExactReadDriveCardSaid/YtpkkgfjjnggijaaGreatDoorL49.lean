/- For every input the law FnExactReadDrive answers true. -/
import Derived.Test.YtpkkgfjjnggijaaGreatDoorQF
import Derived.Test.YtpkkgfjjnggijaaGreatDoorTP
import Derived.Test.YtpkkgfjjnggijaaGreatDoorTie
import Derived.Test.YtpkkgfjjnggijaaGreatDoorCards
import Derived.Stop.LaidErr
namespace Go.Proofs.YtpkkgfjjnggijaaGreatDoor
set_option linter.unusedSimpArgs false
set_option linter.unusedVariables false
open Go.ChangeShapes Go.WideShapes Go.ChangeAt Go.RowKit Go.Fl Go.Tx Go.Lib

set_option maxHeartbeats 2000000 in
theorem l_eqPlant (i d r l m s c e : Nat) (w : World) : Calls Tryz.prog 18 #[plantV i d r l m s c e, plantV i d r l m s c e] w fun e' w' => e' = .returned (.bool true) ∧ Below w.heap.size w w' := by
  have H1' := hrfl (cn .f32 i)
  have H2' := hrfl (cn .f32 d)
  have H3' := hrfl (cn .f32 r)
  have H4' := hrfl (cn .f32 l)
  have H5' := hrfl (cn .f32 m)
  have H6' := hrfl (cn .f32 s)
  have H7' := hrfl (cn .f32 c)
  have H8' := hrfl (cn .f32 e)
  go_enter Tryz.func18, Tryz.ntmps18
  go_wp2_with (first | (refine wpList_widen (dst := 50) rfl rfl rfl (by kernel_rfl) (by exact Tryz.underlying50) (by first | assumption | exact hrfl _) ?_; intro r n hr) | (go_at_call 19; refine (l_sameFloat _ _ (Eq.trans (Hid.out (by assumption)) (Eq.symm (Hid.out (by assumption)))) _).mono ?_; rintro e w' ⟨rfl, n, rfl⟩))
  go_ret
  exact ⟨rfl, (by repeat (first | exact Below.refl _ _ | assumption | refine below_drewN ?_ _ | refine below_alloc (Nat.le_refl _) ?_ _ | (refine Below.setCell ?_ (by first | exact Nat.le_refl _ | (simp; done) | (simp; omega) | omega) _) | (refine below_step (Nat.le_refl _) ?_ (by assumption))))⟩
set_option maxHeartbeats 2000000 in
theorem l_eqDrive (i d r l m s c e : Nat) (st : Int) (sp pi en : Nat) (w : World) : Calls Tryz.prog 7 #[drvV i d r l m s c e st sp pi en, drvV i d r l m s c e st sp pi en] w fun e' w' => e' = .returned (.bool true) ∧ Below w.heap.size w w' := by
  have H := Lib.hid (fun W => l_eqPlant i d r l m s c e W)
  go_enter Tryz.func7, Tryz.ntmps7
  go_wp2_with fail
  have B0 : Hid (Below w.heap.size w ((w.alloc (.cells #[.float .f32 i, .float .f32 d, .float .f32 r, .float .f32 l, .float .f32 m, .float .f32 s, .float .f32 c, .float .f32 e, .int .i64 st, .float .f32 sp, .float .f32 pi, .float .f32 en] 26)).alloc (.cells #[.float .f32 i, .float .f32 d, .float .f32 r, .float .f32 l, .float .f32 m, .float .f32 s, .float .f32 c, .float .f32 e, .int .i64 st, .float .f32 sp, .float .f32 pi, .float .f32 en] 26))) := below_alloc (Nat.le_refl _) (below_alloc (Nat.le_refl _) (Below.refl _ _) _) _
  have P := (drv_top w _ rfl i d r l m s c e st sp pi en 26).below (below_alloc (Nat.le_refl _) (Below.refl _ _) (.cells #[.float .f32 i, .float .f32 d, .float .f32 r, .float .f32 l, .float .f32 m, .float .f32 s, .float .f32 c, .float .f32 e, .int .i64 st, .float .f32 sp, .float .f32 pi, .float .f32 en] 26))
  have Q := drv_top (w.alloc (.cells #[.float .f32 i, .float .f32 d, .float .f32 r, .float .f32 l, .float .f32 m, .float .f32 s, .float .f32 c, .float .f32 e, .int .i64 st, .float .f32 sp, .float .f32 pi, .float .f32 en] 26)) (w.heap.size + 1) (by simp) i d r l m s c e st sp pi en 26
  refine (H.out _).mono ?_
  rintro e' w1 ⟨rfl, hb⟩
  obtain ⟨-, b0, b1, b2, b3⟩ := P.below hb
  obtain ⟨-, c0, c1, c2, c3⟩ := Q.below hb
  have B1 := Lib.hid (below_step (Nat.le_refl _) B0.out hb)
  clear P Q hb B0
  have H1' := hrfl (cn .f32 sp)
  have H2' := hrfl (cn .f32 pi)
  have H3' := hrfl (cn .f32 en)
  go_wp2_with (first | (refine wpList_widen (dst := 50) rfl rfl rfl (by kernel_rfl) (by exact Tryz.underlying50) (by first | assumption | exact hrfl _) ?_; intro r n hr) | (go_at_call 19; refine (l_sameFloat _ _ (Eq.trans (Hid.out (by assumption)) (Eq.symm (Hid.out (by assumption)))) _).mono ?_; rintro e w' ⟨rfl, n, rfl⟩))
  go_ret
  refine ⟨rfl, ?_⟩
  repeat (first | with_reducible exact B1.out | refine below_drewN ?_ _)
set_option maxRecDepth 100000 in
set_option maxHeartbeats 4000000 in
theorem l_FnExactReadDrive (tx : ByteArray) (w : World) (hg : RG w) (ht : TabP w) :
    Calls Tryz.prog 3 #[.string tx] w fun e w' => e = .returned (.bool true) ∧ Below w.heap.size w w' := by
  have HG := Lib.hid (And.intro hg ht)
  clear hg ht
  by_cases hl : tx.size ≤ 1048576
  case neg =>
    go_enter Tryz.func3, Tryz.ntmps3
    go_wp2
    go_ret
    exact ⟨rfl, (by repeat (first | exact Below.refl _ _ | assumption | refine below_drewN ?_ _ | refine below_alloc (Nat.le_refl _) ?_ _ | (refine Below.setCell ?_ (by first | exact Nat.le_refl _ | (simp; done) | (simp; omega) | omega) _) | (refine below_step (Nat.le_refl _) ?_ (by assumption))))⟩
  have H1 := Lib.hid (fun W => s_ReadDrive tx hl W)
  have H2 := Lib.hid (fun W hg ht => i_ReadDrive tx hl W hg ht)
  obtain ⟨x, hx⟩ : ∃ x, (driveOf tx).getD zeroDr = x := ⟨_, rfl⟩
  obtain ⟨b, hbb⟩ : ∃ b, (driveOf tx).isSome = b := ⟨_, rfl⟩
  obtain ⟨i, d, r, l, m, s, k, e, st, sp, pi, en⟩ := x
  have HR : Hid (∀ W e' W', DrvRd tx W e' W' → (e' = .returned (.tuple #[drvV i d r l m s k e st sp pi en, .bool b]) ∧ Below W.heap.size W W')) := fun W e' W' h => by
    unfold DrvRd at h
    rw [hx, hbb] at h; exact h
  have H3 := Lib.hid (fun W => l_eqDrive i d r l m s k e st sp pi en W)
  clear hx hbb
  go_enter Tryz.func3, Tryz.ntmps3
  go_wp2_with fail
  refine (H1.out _).mono ?_
  intro e' w1 h
  obtain ⟨rfl, hb⟩ := HR.out _ _ _ h
  clear h
  have B1 := Lib.hid hb
  clear hb
  go_wp2_with fail
  obtain ⟨w2, hw2⟩ : ∃ w2, w2 = w1.alloc (.cells #[.float .f32 i, .float .f32 d, .float .f32 r, .float .f32 l, .float .f32 m, .float .f32 s, .float .f32 k, .float .f32 e, .int .i64 st, .float .f32 sp, .float .f32 pi, .float .f32 en] 26) := ⟨_, rfl⟩
  have B2 : Hid (Below w.heap.size w w2) := by rw [hw2]; exact below_alloc (Nat.le_refl _) B1.out _
  have A2 : Hid (DrvAt w2 w1.heap.size i d r l m s k e st sp pi en) := by rw [hw2]; exact drv_top w1 _ rfl i d r l m s k e st sp pi en _
  rw [← hw2]
  clear hw2
  refine (H2.out _ (HG.out.1.below B2.out) (TabP_below HG.out.2 B2.out)).mono ?_
  intro e' w3 h
  obtain ⟨rfl, hb⟩ := HR.out _ _ _ h
  clear h
  have B3 := Lib.hid (below_step (Nat.le_refl _) B2.out hb)
  have A3 := Lib.hid (A2.out.below hb)
  clear hb A2 B2
  obtain ⟨g, hg⟩ : ∃ g, g = w1.heap.size := ⟨_, rfl⟩
  rw [← hg] at A3
  rw [← hg]
  clear hg
  obtain ⟨⟨c0, c1, c2, c3, c4, c5, c6, c7⟩, c8, c9, c10, c11⟩ := A3.out.below (below_alloc (Nat.le_refl _) (Below.refl _ _) (.cells #[.float .f32 i, .float .f32 d, .float .f32 r, .float .f32 l, .float .f32 m, .float .f32 s, .float .f32 k, .float .f32 e, .int .i64 st, .float .f32 sp, .float .f32 pi, .float .f32 en] 26))
  clear H1 H2 HR HG A3
  go_wp2_with fail
  obtain ⟨w4, hw4⟩ : ∃ w4, w4 = w3.alloc (.cells #[.float .f32 i, .float .f32 d, .float .f32 r, .float .f32 l, .float .f32 m, .float .f32 s, .float .f32 k, .float .f32 e, .int .i64 st, .float .f32 sp, .float .f32 pi, .float .f32 en] 26) := ⟨_, rfl⟩
  have B4 : Hid (Below w.heap.size w w4) := by rw [hw4]; exact below_alloc (Nat.le_refl _) B3.out _
  rw [← hw4]
  clear hw4 c0 c1 c2 c3 c4 c5 c6 c7 c8 c9 c10 c11 B3 B1
  refine (H3.out w4).mono ?_
  rintro e' w5 ⟨rfl, hb⟩
  have B5 := Lib.hid (below_step (Nat.le_refl _) B4.out hb)
  clear hb B4 H3
  have hrr : (b != b) = false := by cases b <;> rfl
  go_wp2
  go_ret
  exact ⟨rfl, by repeat (first | with_reducible exact B5.out | refine Below_drewD ?_ | refine below_drewN ?_ _)⟩
theorem RG_of_laidD {W : World} (h : laidMetH Tryz.prog Rows.fnExactReadDriveRow.laid W) (hsh : W.ShapedOpen Tryz.prog) : RG W := by
  rw [MakeChecks.laidMetH_plain _ _ _ (by kernel_rfl)] at h
  refine ⟨?_, ?_, Tryz.laysM146.s1_3 W hsh, ?_⟩
  · exact err_of_head (g := 2) (t := 71) (by kernel_rfl) (by kernel_rfl) Tryz.underlying71 h.tail.tail.tail.tail.tail
  · exact err_of_head (g := 3) (t := 71) (by kernel_rfl) (by kernel_rfl) Tryz.underlying71 h.tail.tail.tail.tail
  · exact Lib.tabIs_of_head (g := 8) (t := 170) (e := 5) (n := 64) (rest := _) (by kernel_rfl) (by kernel_rfl) (by kernel_rfl) (by kernel_rfl) (by kernel_rfl) (by kernel_rfl) h.tail
theorem TabP_of_laidD {W : World} (h : laidMetH Tryz.prog Rows.fnExactReadDriveRow.laid W) : TabP W := by
  rw [MakeChecks.laidMetH_plain _ _ _ (by kernel_rfl)] at h
  exact Lib.tabIs_of_head (g := 6) (t := 161) (e := 94) (n := 20) (rest := _) (by kernel_rfl) (by kernel_rfl) (by kernel_rfl) (by kernel_rfl) (by kernel_rfl) (by kernel_rfl) h.tail.tail
set_option maxRecDepth 100000 in
theorem FnExactReadDrive_lifted (os : Os) (started : os.Started) (H : Type) (enc : TypeId × Value → H) :
    ReturnsInHanded {} Tryz.checked os 3 .any (fun w args => (Rows.fnExactReadDriveSpec.pre enc Tryz.prog Tryz.f3 [] false w args ∧ laidMetH Tryz.prog Rows.fnExactReadDriveRow.laid w) ∧ sizedMet enc Tryz.prog Tryz.f3 (OpenSpec.ofChange Rows.fnExactReadDriveSpec) false w args)
      (Rows.fnExactReadDriveSpec.post enc Tryz.prog Tryz.f3 false true false false) := by
  refine handed_laid_shaped (C := Tryz.checked) (X := fun w _ => laidMetH Tryz.prog Rows.fnExactReadDriveRow.laid w) (fun _ _ _ hh h => h.of_heap hh) Tryz.own started (by kernel_rfl) Tryz.func3
    (ChangeSpec.witness_shaped (enc := enc) (C := Tryz.checked) (os := os) (X := fun w _ => laidMetH Tryz.prog Rows.fnExactReadDriveRow.laid w) false (World.laidAll Tryz.prog os Rows.fnExactReadDriveRow.laid) #[.string ByteArray.empty] 8 (World.laidAll_os _ _ _)
      (World.shaped_of_ZipB (by kernel_rfl) (by kernel_rfl)) (by kernel_rfl) (by kernel_rfl) (by kernel_rfl)
      (by rw [MakeChecks.laidMetH_plain _ _ _ (by kernel_rfl)]; exact laidMet_laidAll _ (by kernel_rfl) (by kernel_rfl))) ?_
  intro W base args ds gs before hval0 hW _ _ hX hsh _
  have hval : ∀ (j : Nat) t v, Tryz.f3.params[j]? = some t → args[j]? = some v → Value.okWide Tryz.prog W .any base t v := hval0
  have hW' := hW
  obtain ⟨p, q, hA0, hV, rfl, hfz, hnd⟩ := hW
  have hA : DataW.TrodAll enc Tryz.prog W 0 (fun _ => true) true Tryz.f3.params.toList args.toList ds p := hA0
  rw [Tryz.params3] at hA hval
  obtain ⟨rfl, rfl⟩ := trodVars_none hV
  obtain ⟨v0, vs0, d0, ds0, p0, q0, ha0, rfl, rfl, h0, r0⟩ := trodAll_cons hA
  obtain ⟨rfl, rfl, rfl⟩ := trodAll_nil r0
  obtain rfl : args = #[v0] := by apply Array.ext'; exact ha0
  obtain ⟨s, rfl, -, -, -⟩ := Go.ChangeMaps.open_string Tryz.underlying9 (hval 0 9 v0 rfl rfl) h0
  refine (l_FnExactReadDrive s W (RG_of_laidD hX hsh) (TabP_of_laidD hX)).mono fun e W' ⟨he, hb⟩ => ?_
  subst he
  exact ⟨_, rfl, post_law Tryz.laidOut (by as_aux_lemma => kernel_rfl) rfl Tryz.underlying4 hW' rfl ⟨rfl, rfl, rfl⟩ hb⟩

theorem FnExactReadDrive_row : Rows.FnExactReadDriveSaid :=
  OpenClaim.holds_of_wide 3 Tryz.f3 rfl rfl rfl rfl rfl rfl rfl ⟨rfl, rfl, rfl, rfl, rfl⟩ rfl rfl rfl rfl rfl (by as_aux_lemma => kernel_rfl) Tryz.func3 (by as_aux_lemma => kernel_rfl)
    (of_decide_eq_true (by as_aux_lemma => kernel_rfl)) (by unfold Func.isWrapper; rw [if_neg (of_decide_eq_false (by as_aux_lemma => kernel_rfl))]; exact ⟨rfl, rfl⟩)
    (fun os started H enc _ => FnExactReadDrive_lifted os started H enc)

theorem FnExactReadDrive_holds : Rows.FnExactReadDriveCardSaid :=
  Claim7.holds_tied_plain_at .later [] Rows.fnExactReadDriveCard.laidKinds true Rows.fnExactReadDriveCard.stood.harness true
    FnExactReadDrive_row (fun _ h => by cases h) (by kernel_rfl) (fun _ h => by cases h) fnExactReadDrive_row_tie rfl ⟨rfl, rfl⟩ (by kernel_rfl) rfl
    (fun f fn hf hfn => by
      obtain rfl : f = 3 := Option.some.inj ((show Tryz.prog.funcNamed "loop.example/g01256/laws.FnExactReadDrive" = some 3 by kernel_rfl).symm.trans hf) |>.symm
      obtain rfl : fn = Tryz.f3 := (Option.some.inj (Tryz.func3.symm.trans hfn)).symm
      exact ⟨by kernel_rfl, fun j t ht => by
        rw [Tryz.params3] at ht
        have hm : t ∈ [9] := by simpa using Array.mem_of_getElem? ht
        have hall : ([9].all fun u => !Tryz.prog.wantsStandIn u) = true := by kernel_rfl
        exact (show Tryz.prog.wantsStandIn t = false by simpa using List.all_eq_true.1 hall t hm)⟩)
    (by kernel_rfl)
end Go.Proofs.YtpkkgfjjnggijaaGreatDoor
