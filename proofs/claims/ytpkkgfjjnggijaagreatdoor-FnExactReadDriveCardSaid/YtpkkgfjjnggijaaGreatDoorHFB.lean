/- Walks: what a valid plant is, the reference's. -/
import Derived.Test.YtpkkgfjjnggijaaGreatDoorHQ
namespace Go.Proofs.YtpkkgfjjnggijaaGreatDoor
set_option linter.unusedSimpArgs false
set_option linter.unusedVariables false
open Go.RowKit Go.Fl Go.Lib
set_option maxRecDepth 100000 in
set_option maxHeartbeats 40000000 in
theorem s_l05Plant (g i d r l m s c e : Nat) (w : World) (h : PlantAt w g i d r l m s c e) : Calls Tryz.prog 55 #[.pointer (some ⟨g, 0, none⟩)] w fun e' w' => e' = .returned (.bool (plantOk i d r l m s c e)) ∧ ∃ n, w' = w.drewN n := by
  obtain ⟨h0, h1, h2, h3, h4, h5, h6, h7⟩ := h
  have A0 := Lib.hid (fun W => s_l02Above i W)
  have A1 := Lib.hid (fun W => s_l02Least d W)
  have A2 := Lib.hid (fun W => s_l02Above r W)
  have A3 := Lib.hid (fun W => s_l02Above l W)
  have A4 := Lib.hid (fun W => s_l01Finite m W)
  have A6 := Lib.hid (fun W => s_l02Above s W)
  have A7 := Lib.hid (fun W => s_l01Finite c W)
  have A9 := Lib.hid (fun W => s_l02Above e W)
  have hdef : Hid (plantOk i d r l m s c e = (above i && least d && above r && above l && fin .f32 m && (FloatKind.f32.format.order m l == some Ordering.gt) && above s && fin .f32 c && (FloatKind.f32.format.order c s == some Ordering.gt) && above e)) := rfl
  generalize plantOk i d r l m s c e = D at *
  generalize above i = K0 at *
  generalize least d = K1 at *
  generalize above r = K2 at *
  generalize above l = K3 at *
  generalize fin .f32 m = K4 at *
  generalize above s = K6 at *
  generalize fin .f32 c = K7 at *
  generalize above e = K9 at *
  go_enter Tryz.func55, Tryz.ntmps55
  go_wp2_with fail
  dsimp only [List.append]
  refine wp_region_quiet_lit (by kernel_rfl) (by kernel_rfl) ?_
  repeat (go_big_quiet_step ((first | (go_at_call 78; exact Calls.quiet_of (A0.out _)))))
  cases K0
  · have e0 : Hid (D = false) := by show _ = _; rw [hdef.out]; simp only [Bool.and_true, Bool.and_false, Bool.true_and, Bool.false_and]
    refine wpQuiet_dead 79 2 _ [8] _ ?_ ?_ ?_ ?_
    · kernel_rfl
    · exact Nat.le_of_eq (by kernel_rfl)
    · intro s hs; rw [List.mem_singleton.1 hs]; kernel_rfl
    intro a' h8 h9
    rintro _ ⟨nq, rfl⟩
    rename_i hK
    refine hK _ _ (wp_ret ?_)
    refine bodyPost_ret (v := .bool false) ?_ h9 ⟨by rw [e0.out], _, rfl⟩
    simp [results, Tryz.results55, go_sem, h8]
  repeat (go_big_quiet_step ((first | (go_at_call 56; exact Calls.quiet_of (A1.out _)))))
  cases K1
  · have e0 : Hid (D = false) := by show _ = _; rw [hdef.out]; simp only [Bool.and_true, Bool.and_false, Bool.true_and, Bool.false_and]
    refine wpQuiet_dead 79 2 _ [15] _ ?_ ?_ ?_ ?_
    · kernel_rfl
    · exact Nat.le_of_eq (by kernel_rfl)
    · intro s hs; rw [List.mem_singleton.1 hs]; kernel_rfl
    intro a' h8 h9
    rintro _ ⟨nq, rfl⟩
    rename_i hK
    refine hK _ _ (wp_ret ?_)
    refine bodyPost_ret (v := .bool false) ?_ h9 ⟨by rw [e0.out], _, rfl⟩
    simp [results, Tryz.results55, go_sem, h8]
  repeat (go_big_quiet_step ((first | (go_at_call 78; exact Calls.quiet_of (A2.out _)))))
  cases K2
  · have e0 : Hid (D = false) := by show _ = _; rw [hdef.out]; simp only [Bool.and_true, Bool.and_false, Bool.true_and, Bool.false_and]
    refine wpQuiet_dead 79 2 _ [22] _ ?_ ?_ ?_ ?_
    · kernel_rfl
    · exact Nat.le_of_eq (by kernel_rfl)
    · intro s hs; rw [List.mem_singleton.1 hs]; kernel_rfl
    intro a' h8 h9
    rintro _ ⟨nq, rfl⟩
    rename_i hK
    refine hK _ _ (wp_ret ?_)
    refine bodyPost_ret (v := .bool false) ?_ h9 ⟨by rw [e0.out], _, rfl⟩
    simp [results, Tryz.results55, go_sem, h8]
  repeat (go_big_quiet_step ((first | (go_at_call 78; exact Calls.quiet_of (A3.out _)))))
  cases K3
  · have e0 : Hid (D = false) := by show _ = _; rw [hdef.out]; simp only [Bool.and_true, Bool.and_false, Bool.true_and, Bool.false_and]
    refine wpQuiet_dead 79 2 _ [29] _ ?_ ?_ ?_ ?_
    · kernel_rfl
    · exact Nat.le_of_eq (by kernel_rfl)
    · intro s hs; rw [List.mem_singleton.1 hs]; kernel_rfl
    intro a' h8 h9
    rintro _ ⟨nq, rfl⟩
    rename_i hK
    refine hK _ _ (wp_ret ?_)
    refine bodyPost_ret (v := .bool false) ?_ h9 ⟨by rw [e0.out], _, rfl⟩
    simp [results, Tryz.results55, go_sem, h8]
  repeat (go_big_quiet_step ((first | (go_at_call 57; exact Calls.quiet_of (A4.out _)))))
  cases K4
  · have e0 : Hid (D = false) := by show _ = _; rw [hdef.out]; simp only [Bool.and_true, Bool.and_false, Bool.true_and, Bool.false_and]
    refine wpQuiet_dead 79 2 _ [36] _ ?_ ?_ ?_ ?_
    · kernel_rfl
    · exact Nat.le_of_eq (by kernel_rfl)
    · intro s hs; rw [List.mem_singleton.1 hs]; kernel_rfl
    intro a' h8 h9
    rintro _ ⟨nq, rfl⟩
    rename_i hK
    refine hK _ _ (wp_ret ?_)
    refine bodyPost_ret (v := .bool false) ?_ h9 ⟨by rw [e0.out], _, rfl⟩
    simp [results, Tryz.results55, go_sem, h8]
  iterate 9 go_big_quiet_step (fail)
  generalize (FloatKind.f32.format.order m l == some Ordering.gt) = K5 at *
  iterate 2 go_big_quiet_step (fail)
  cases K5
  · have e0 : Hid (D = false) := by show _ = _; rw [hdef.out]; simp only [Bool.and_true, Bool.and_false, Bool.true_and, Bool.false_and]
    refine wpQuiet_dead 79 2 _ [47] _ ?_ ?_ ?_ ?_
    · kernel_rfl
    · exact Nat.le_of_eq (by kernel_rfl)
    · intro s hs; rw [List.mem_singleton.1 hs]; kernel_rfl
    intro a' h8 h9
    rintro _ ⟨nq, rfl⟩
    rename_i hK
    refine hK _ _ (wp_ret ?_)
    refine bodyPost_ret (v := .bool false) ?_ h9 ⟨by rw [e0.out], _, rfl⟩
    simp [results, Tryz.results55, go_sem, h8]
  repeat (go_big_quiet_step ((first | (go_at_call 78; exact Calls.quiet_of (A6.out _)))))
  cases K6
  · have e0 : Hid (D = false) := by show _ = _; rw [hdef.out]; simp only [Bool.and_true, Bool.and_false, Bool.true_and, Bool.false_and]
    refine wpQuiet_dead 79 2 _ [54] _ ?_ ?_ ?_ ?_
    · kernel_rfl
    · exact Nat.le_of_eq (by kernel_rfl)
    · intro s hs; rw [List.mem_singleton.1 hs]; kernel_rfl
    intro a' h8 h9
    rintro _ ⟨nq, rfl⟩
    rename_i hK
    refine hK _ _ (wp_ret ?_)
    refine bodyPost_ret (v := .bool false) ?_ h9 ⟨by rw [e0.out], _, rfl⟩
    simp [results, Tryz.results55, go_sem, h8]
  repeat (go_big_quiet_step ((first | (go_at_call 57; exact Calls.quiet_of (A7.out _)))))
  cases K7
  · have e0 : Hid (D = false) := by show _ = _; rw [hdef.out]; simp only [Bool.and_true, Bool.and_false, Bool.true_and, Bool.false_and]
    refine wpQuiet_dead 79 2 _ [61] _ ?_ ?_ ?_ ?_
    · kernel_rfl
    · exact Nat.le_of_eq (by kernel_rfl)
    · intro s hs; rw [List.mem_singleton.1 hs]; kernel_rfl
    intro a' h8 h9
    rintro _ ⟨nq, rfl⟩
    rename_i hK
    refine hK _ _ (wp_ret ?_)
    refine bodyPost_ret (v := .bool false) ?_ h9 ⟨by rw [e0.out], _, rfl⟩
    simp [results, Tryz.results55, go_sem, h8]
  iterate 9 go_big_quiet_step (fail)
  generalize (FloatKind.f32.format.order c s == some Ordering.gt) = K8 at *
  iterate 2 go_big_quiet_step (fail)
  cases K8
  · have e0 : Hid (D = false) := by show _ = _; rw [hdef.out]; simp only [Bool.and_true, Bool.and_false, Bool.true_and, Bool.false_and]
    refine wpQuiet_dead 79 2 _ [72] _ ?_ ?_ ?_ ?_
    · kernel_rfl
    · exact Nat.le_of_eq (by kernel_rfl)
    · intro s hs; rw [List.mem_singleton.1 hs]; kernel_rfl
    intro a' h8 h9
    rintro _ ⟨nq, rfl⟩
    rename_i hK
    refine hK _ _ (wp_ret ?_)
    refine bodyPost_ret (v := .bool false) ?_ h9 ⟨by rw [e0.out], _, rfl⟩
    simp [results, Tryz.results55, go_sem, h8]
  repeat (go_big_quiet_step ((first | (go_at_call 78; exact Calls.quiet_of (A9.out _)))))
  refine wpQuiet_nil ?_
  rintro _ ⟨nq, rfl⟩
  go_wp2
  go_ret
  exact ⟨by rw [hdef.out]; simp only [Bool.and_true, Bool.and_false, Bool.true_and, Bool.false_and]; rfl, _, rfl⟩
end Go.Proofs.YtpkkgfjjnggijaaGreatDoor
