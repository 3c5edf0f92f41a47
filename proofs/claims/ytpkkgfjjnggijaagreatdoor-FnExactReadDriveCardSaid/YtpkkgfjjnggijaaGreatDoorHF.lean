/- Walks: what a valid drive is, the reference's. -/
import Derived.Test.YtpkkgfjjnggijaaGreatDoorHFA
namespace Go.Proofs.YtpkkgfjjnggijaaGreatDoor
set_option linter.unusedSimpArgs false
set_option linter.unusedVariables false
open Go.RowKit Go.Fl Go.Lib
set_option maxRecDepth 100000 in
set_option maxHeartbeats 8000000 in
theorem s_l05Is_of (g i d r l m s c e : Nat) (st : Int) (sp pi en : Nat) (w : World) (h : DrvAt w g i d r l m s c e st sp pi en) (A0 : Hid (Calls Tryz.prog 55 #[.pointer (some ⟨g, 0, none⟩)] w fun e' w' => e' = .returned (.bool (plantOk i d r l m s c e)) ∧ ∃ m, w' = w.drewN m)) : Calls Tryz.prog 33 #[.pointer (some ⟨g, 0, none⟩)] w fun e' w' => e' = .returned (.bool (drvOk i d r l m s c e st sp pi en)) ∧ ∃ n, w' = w.drewN n := by
  obtain ⟨-, h1, h2, h3, h4⟩ := h
  have A1 := Lib.hid (fun W => s_l00In st 0 4 W)
  have A2 := Lib.hid (fun W => s_l02Least sp W)
  have A5 := Lib.hid (fun W => s_l01Finite en W)
  have hdef : Hid (drvOk i d r l m s c e st sp pi en = (plantOk i d r l m s c e && inB st 0 4 && least sp && fromTo pi 0 1065353216 && fin .f32 en)) := rfl
  generalize drvOk i d r l m s c e st sp pi en = D at *
  generalize plantOk i d r l m s c e = K0 at *
  generalize inB st 0 4 = K1 at *
  generalize least sp = K2 at *
  generalize fin .f32 en = K5 at *
  go_enter Tryz.func33, Tryz.ntmps33
  go_wp2_with fail
  refine A0.out.mono ?_
  rintro e' w1 ⟨rfl, n, rfl⟩
  cases K0
  · have e : Hid (D = false) := by show _ = _; rw [hdef.out]; unfold fromTo; simp only [Bool.and_true, Bool.and_false, Bool.true_and, Bool.false_and]
    go_wp2
    all_goals
      go_ret
      exact ⟨by rw [e.out]; rfl, _, rfl⟩
  cases K1
  · have e : Hid (D = false) := by show _ = _; rw [hdef.out]; unfold fromTo; simp only [Bool.and_true, Bool.and_false, Bool.true_and, Bool.false_and]
    go_wp2_with (first | (go_at_call 53; refine (A1.out _).mono ?_; rintro e2 w2 ⟨rfl, n2, rfl⟩))
    all_goals
      go_ret
      exact ⟨by rw [e.out]; rfl, _, rfl⟩
  cases K2
  · have e : Hid (D = false) := by show _ = _; rw [hdef.out]; unfold fromTo; simp only [Bool.and_true, Bool.and_false, Bool.true_and, Bool.false_and]
    go_wp2_with (first | (go_at_call 53; refine (A1.out _).mono ?_; rintro e2 w2 ⟨rfl, n2, rfl⟩) | (go_at_call 56; refine (A2.out _).mono ?_; rintro e3 w3 ⟨rfl, n3, rfl⟩))
    all_goals
      go_ret
      exact ⟨by rw [e.out]; rfl, _, rfl⟩
  cases k3 : fge .f32 pi 0
  · have e : Hid (D = false) := by show _ = _; rw [hdef.out]; unfold fromTo; simp only [k3, Bool.and_true, Bool.and_false, Bool.true_and, Bool.false_and]
    unfold fge at k3
    go_wp2_with (first | (go_at_call 53; refine (A1.out _).mono ?_; rintro e2 w2 ⟨rfl, n2, rfl⟩) | (go_at_call 56; refine (A2.out _).mono ?_; rintro e3 w3 ⟨rfl, n3, rfl⟩))
    all_goals
      go_ret
      exact ⟨by rw [e.out]; rfl, _, rfl⟩
  cases k4 : fle .f32 pi 1065353216
  · have e : Hid (D = false) := by show _ = _; rw [hdef.out]; unfold fromTo; simp only [k3, k4, Bool.and_true, Bool.and_false, Bool.true_and, Bool.false_and]
    unfold fge at k3
    unfold fle at k4
    go_wp2_with (first | (go_at_call 53; refine (A1.out _).mono ?_; rintro e2 w2 ⟨rfl, n2, rfl⟩) | (go_at_call 56; refine (A2.out _).mono ?_; rintro e3 w3 ⟨rfl, n3, rfl⟩))
    all_goals
      go_ret
      exact ⟨by rw [e.out]; rfl, _, rfl⟩
  cases K5
  · have e : Hid (D = false) := by show _ = _; rw [hdef.out]; unfold fromTo; simp only [k3, k4, Bool.and_true, Bool.and_false, Bool.true_and, Bool.false_and]
    unfold fge at k3
    unfold fle at k4
    go_wp2_with (first | (go_at_call 53; refine (A1.out _).mono ?_; rintro e2 w2 ⟨rfl, n2, rfl⟩) | (go_at_call 56; refine (A2.out _).mono ?_; rintro e3 w3 ⟨rfl, n3, rfl⟩) | (go_at_call 57; refine (A5.out _).mono ?_; rintro e6 w6 ⟨rfl, n6, rfl⟩))
    all_goals
      go_ret
      exact ⟨by rw [e.out]; rfl, _, rfl⟩
  have e : Hid (D = true) := by show _ = _; rw [hdef.out]; unfold fromTo; simp only [k3, k4, Bool.and_true, Bool.and_false, Bool.true_and, Bool.false_and]
  unfold fge at k3
  unfold fle at k4
  go_wp2_with (first | (go_at_call 53; refine (A1.out _).mono ?_; rintro e2 w2 ⟨rfl, n2, rfl⟩) | (go_at_call 56; refine (A2.out _).mono ?_; rintro e3 w3 ⟨rfl, n3, rfl⟩) | (go_at_call 57; refine (A5.out _).mono ?_; rintro e6 w6 ⟨rfl, n6, rfl⟩))
  all_goals
    go_ret
    exact ⟨by rw [e.out]; rfl, _, rfl⟩
end Go.Proofs.YtpkkgfjjnggijaaGreatDoor
