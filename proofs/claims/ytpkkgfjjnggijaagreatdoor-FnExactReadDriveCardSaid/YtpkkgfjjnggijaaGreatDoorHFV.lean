/- Walks: what a valid drive is, the other's. -/
import Derived.Test.YtpkkgfjjnggijaaGreatDoorHFA
namespace Go.Proofs.YtpkkgfjjnggijaaGreatDoor
set_option linter.unusedSimpArgs false
set_option linter.unusedVariables false
open Go.RowKit Go.Fl Go.Lib
set_option maxRecDepth 100000 in
set_option maxHeartbeats 8000000 in
theorem i_ValidPlant (i d r l m s c e : Nat) (w : World) : Calls Tryz.prog 68 #[plantV i d r l m s c e] w fun e' w' => e' = .returned (.bool (plantOk i d r l m s c e)) ∧ Below w.heap.size w w' := by
  have HOK := Lib.hid (plantOk_is i d r l m s c e)
  have HA := Lib.hid (fun W (h : RF W (.slice (some ⟨w.heap.size + 1, 0, none⟩) 7 7) [i, r, l, m, s, c, e]) => i_arePositive _ [i, r, l, m, s, c, e] W h)
  have HD := Lib.hid (fun W => i_isLeast d W)
  generalize plantOk i d r l m s c e = D at *
  generalize aboveAll [i, r, l, m, s, c, e] = A at *
  generalize least d = L at *
  go_enter Tryz.func68, Tryz.ntmps68
  go_wp2_with fail
  refine (HA.out _ (RF_top7 _ _ (by simp) i r l m s c e _)).mono ?_
  rintro e' w1 ⟨rfl, n, hw⟩
  have HB := Lib.hid (show Below w.heap.size w w1 from by rw [hw]; exact below_drewN (below_alloc (Nat.le_refl _) (below_alloc (Nat.le_refl _) (Below.refl _ _) _) _) n)
  obtain ⟨c0, c1, c2, c3, c4, c5, c6, c7⟩ := (plant_top w _ rfl i d r l m s c e 24).below (show Below _ _ w1 from by rw [hw]; exact below_drewN (below_alloc (Nat.le_refl _) (Below.refl _ _) _) n)
  clear hw HA
  cases A
  · have e0 : Hid (D = false) := by show _ = _; rw [← HOK.out]; simp only [Bool.and_true, Bool.and_false, Bool.true_and, Bool.false_and]
    go_wp2_with (go_at_call 70; refine (HD.out _).mono ?_; rintro e2 w2 ⟨rfl, n2, rfl⟩)
    all_goals
      go_ret
      exact ⟨by rw [e0.out]; rfl, by first | exact below_drewN HB.out _ | exact HB.out⟩
  cases L
  · have e0 : Hid (D = false) := by show _ = _; rw [← HOK.out]; simp only [Bool.and_true, Bool.and_false, Bool.true_and, Bool.false_and]
    go_wp2_with (go_at_call 70; refine (HD.out _).mono ?_; rintro e2 w2 ⟨rfl, n2, rfl⟩)
    all_goals
      go_ret
      exact ⟨by rw [e0.out]; rfl, by first | exact below_drewN HB.out _ | exact HB.out⟩
  cases k2 : fgt .f32 m l
  · have e0 : Hid (D = false) := by show _ = _; rw [← HOK.out]; simp only [k2, Bool.and_true, Bool.and_false, Bool.true_and, Bool.false_and]
    unfold fgt at k2
    go_wp2_with (go_at_call 70; refine (HD.out _).mono ?_; rintro e2 w2 ⟨rfl, n2, rfl⟩)
    all_goals
      go_ret
      exact ⟨by rw [e0.out]; rfl, by first | exact below_drewN HB.out _ | exact HB.out⟩
  cases k3 : fgt .f32 c s
  · have e0 : Hid (D = false) := by show _ = _; rw [← HOK.out]; simp only [k2, k3, Bool.and_true, Bool.and_false, Bool.true_and, Bool.false_and]
    unfold fgt at k2
    unfold fgt at k3
    go_wp2_with (go_at_call 70; refine (HD.out _).mono ?_; rintro e2 w2 ⟨rfl, n2, rfl⟩)
    all_goals
      go_ret
      exact ⟨by rw [e0.out]; rfl, by first | exact below_drewN HB.out _ | exact HB.out⟩
  have e0 : Hid (D = true) := by show _ = _; rw [← HOK.out]; simp only [k2, k3, Bool.and_true, Bool.and_false, Bool.true_and, Bool.false_and]
  unfold fgt at k2
  unfold fgt at k3
  go_wp2_with (go_at_call 70; refine (HD.out _).mono ?_; rintro e2 w2 ⟨rfl, n2, rfl⟩)
  all_goals
    go_ret
    exact ⟨by rw [e0.out]; rfl, by first | exact below_drewN HB.out _ | exact HB.out⟩
set_option maxRecDepth 100000 in
set_option maxHeartbeats 8000000 in
theorem i_ValidDrive (i d r l m s c e : Nat) (st : Int) (sp pi en : Nat) (w : World) : Calls Tryz.prog 40 #[drvV i d r l m s c e st sp pi en] w fun e' w' => e' = .returned (.bool (drvOk i d r l m s c e st sp pi en)) ∧ Below w.heap.size w w' := by
  have H0 := Lib.hid (fun W => i_ValidPlant i d r l m s c e W)
  have A1 := Lib.hid (fun W => i_isState st W)
  have A2 := Lib.hid (fun W => i_isLeast sp W)
  have A3 := Lib.hid (fun W => i_isFromTo pi 0 1065353216 W)
  have A4 := Lib.hid (fun W => i_IsFinite en W)
  have hdef : Hid (drvOk i d r l m s c e st sp pi en = (plantOk i d r l m s c e && inB st 0 4 && least sp && fromTo pi 0 1065353216 && fin .f32 en)) := rfl
  generalize drvOk i d r l m s c e st sp pi en = D at *
  generalize plantOk i d r l m s c e = K0 at *
  generalize inB st 0 4 = K1 at *
  generalize least sp = K2 at *
  generalize fromTo pi 0 1065353216 = K3 at *
  generalize fin .f32 en = K4 at *
  go_enter Tryz.func40, Tryz.ntmps40
  go_wp2_with fail
  refine (H0.out _).mono ?_
  rintro e' w1 ⟨rfl, hb⟩
  obtain ⟨-, h1, h2, h3, h4⟩ := (drv_top w _ rfl i d r l m s c e st sp pi en 26).below hb
  have HB := Lib.hid (show Below w.heap.size w w1 from below_step (Nat.le_refl _) (below_alloc (Nat.le_refl _) (Below.refl _ _) _) hb)
  clear hb H0
  cases K0
  · have e0 : Hid (D = false) := by show _ = _; rw [hdef.out]; simp only [Bool.and_true, Bool.and_false, Bool.true_and, Bool.false_and]
    go_wp2
    all_goals
      go_ret
      refine ⟨by rw [e0.out]; rfl, ?_⟩
      repeat (first | exact HB.out | refine below_drewN ?_ _)
  cases K1
  · have e0 : Hid (D = false) := by show _ = _; rw [hdef.out]; simp only [Bool.and_true, Bool.and_false, Bool.true_and, Bool.false_and]
    go_wp2_with (first | (go_at_call 69; refine (A1.out _).mono ?_; rintro e2 w2 ⟨rfl, n2, rfl⟩))
    all_goals
      go_ret
      refine ⟨by rw [e0.out]; rfl, ?_⟩
      repeat (first | exact HB.out | refine below_drewN ?_ _)
  cases K2
  · have e0 : Hid (D = false) := by show _ = _; rw [hdef.out]; simp only [Bool.and_true, Bool.and_false, Bool.true_and, Bool.false_and]
    go_wp2_with (first | (go_at_call 69; refine (A1.out _).mono ?_; rintro e2 w2 ⟨rfl, n2, rfl⟩) | (go_at_call 70; refine (A2.out _).mono ?_; rintro e3 w3 ⟨rfl, n3, rfl⟩))
    all_goals
      go_ret
      refine ⟨by rw [e0.out]; rfl, ?_⟩
      repeat (first | exact HB.out | refine below_drewN ?_ _)
  cases K3
  · have e0 : Hid (D = false) := by show _ = _; rw [hdef.out]; simp only [Bool.and_true, Bool.and_false, Bool.true_and, Bool.false_and]
    go_wp2_with (first | (go_at_call 69; refine (A1.out _).mono ?_; rintro e2 w2 ⟨rfl, n2, rfl⟩) | (go_at_call 70; refine (A2.out _).mono ?_; rintro e3 w3 ⟨rfl, n3, rfl⟩) | (go_at_call 71; refine (A3.out _).mono ?_; rintro e4 w4 ⟨rfl, n4, rfl⟩))
    all_goals
      go_ret
      refine ⟨by rw [e0.out]; rfl, ?_⟩
      repeat (first | exact HB.out | refine below_drewN ?_ _)
  cases K4
  · have e0 : Hid (D = false) := by show _ = _; rw [hdef.out]; simp only [Bool.and_true, Bool.and_false, Bool.true_and, Bool.false_and]
    go_wp2_with (first | (go_at_call 69; refine (A1.out _).mono ?_; rintro e2 w2 ⟨rfl, n2, rfl⟩) | (go_at_call 70; refine (A2.out _).mono ?_; rintro e3 w3 ⟨rfl, n3, rfl⟩) | (go_at_call 71; refine (A3.out _).mono ?_; rintro e4 w4 ⟨rfl, n4, rfl⟩) | (go_at_call 72; refine (A4.out _).mono ?_; rintro e5 w5 ⟨rfl, n5, rfl⟩))
    all_goals
      go_ret
      refine ⟨by rw [e0.out]; rfl, ?_⟩
      repeat (first | exact HB.out | refine below_drewN ?_ _)
  have e0 : Hid (D = true) := by show _ = _; rw [hdef.out]; simp only [Bool.and_true, Bool.and_false, Bool.true_and, Bool.false_and]
  go_wp2_with (first | (go_at_call 69; refine (A1.out _).mono ?_; rintro e2 w2 ⟨rfl, n2, rfl⟩) | (go_at_call 70; refine (A2.out _).mono ?_; rintro e3 w3 ⟨rfl, n3, rfl⟩) | (go_at_call 71; refine (A3.out _).mono ?_; rintro e4 w4 ⟨rfl, n4, rfl⟩) | (go_at_call 72; refine (A4.out _).mono ?_; rintro e5 w5 ⟨rfl, n5, rfl⟩))
  all_goals
    go_ret
    refine ⟨by rw [e0.out]; rfl, ?_⟩
    repeat (first | exact HB.out | refine below_drewN ?_ _)
end Go.Proofs.YtpkkgfjjnggijaaGreatDoor
