/- Walks: the parts of a desk, wherever they lie. -/
import Derived.Test.YtglfjanclopipaaKL
import Derived.Test.YtglfjanclopipaaHQ
import Derived.Test.YtglfjanclopipaaHFV
namespace Go.Proofs.Ytglfjanclopipaa
set_option linter.unusedSimpArgs false
set_option linter.unusedVariables false
open Go.RowKit Go.Fl Go.Lib

def AirAtO (w : World) (g o : Nat) (a b c d : Nat) : Prop := w.cell? ⟨g, o, none⟩ = some (.float .f32 a) ∧ w.cell? ⟨g, o + 1, none⟩ = some (.float .f32 b) ∧ w.cell? ⟨g, o + 2, none⟩ = some (.float .f32 c) ∧ w.cell? ⟨g, o + 3, none⟩ = some (.float .f32 d)
def PlantAtO (w : World) (g o : Nat) (i d r l m s c e : Nat) : Prop := w.cell? ⟨g, o, none⟩ = some (.float .f32 i) ∧ w.cell? ⟨g, o + 1, none⟩ = some (.float .f32 d) ∧ w.cell? ⟨g, o + 2, none⟩ = some (.float .f32 r) ∧ w.cell? ⟨g, o + 3, none⟩ = some (.float .f32 l) ∧
  w.cell? ⟨g, o + 4, none⟩ = some (.float .f32 m) ∧ w.cell? ⟨g, o + 5, none⟩ = some (.float .f32 s) ∧ w.cell? ⟨g, o + 6, none⟩ = some (.float .f32 c) ∧ w.cell? ⟨g, o + 7, none⟩ = some (.float .f32 e)
def DrvAtO (w : World) (g o : Nat) (i d r l m s c e : Nat) (st : Int) (sp pi en : Nat) : Prop := PlantAtO w g o i d r l m s c e ∧ w.cell? ⟨g, o + 8, none⟩ = some (.int .i64 st) ∧ w.cell? ⟨g, o + 9, none⟩ = some (.float .f32 sp) ∧ w.cell? ⟨g, o + 10, none⟩ = some (.float .f32 pi) ∧ w.cell? ⟨g, o + 11, none⟩ = some (.float .f32 en)
def FarmAtO (w : World) (g o : Nat) (vx vy : Value) (r d s : Nat) : Prop := w.cell? ⟨g, o, none⟩ = some vx ∧ w.cell? ⟨g, o + 1, none⟩ = some vy ∧ w.cell? ⟨g, o + 2, none⟩ = some (.float .f32 r) ∧ w.cell? ⟨g, o + 3, none⟩ = some (.float .f32 d) ∧ w.cell? ⟨g, o + 4, none⟩ = some (.float .f32 s)
theorem s_l04IsO (g o a b c d : Nat) (w : World) (h : AirAtO w g o a b c d) : Calls Try.prog 75 #[.pointer (some ⟨g, o, none⟩)] w fun e w' => e = .returned (.bool (airOk a b c d)) ∧ ∃ n, w' = w.drewN n := by
  obtain ⟨h0, h1, h2, h3⟩ := h
  go_enter Try.func75, Try.ntmps75
  go_wp2_with (first | (go_at_call 118; refine (s_l02Above _ _).mono ?_; rintro e w' ⟨rfl, n, rfl⟩) | (go_at_call 116; refine (s_l02Least _ _).mono ?_; rintro e w' ⟨rfl, n, rfl⟩) | (go_at_call 119; refine (s_l04Share _ _).mono ?_; rintro e w' ⟨rfl, n, rfl⟩))
  all_goals
    go_ret
    exact ⟨by simp_all [airOk], _, rfl⟩
set_option maxRecDepth 100000 in
set_option maxHeartbeats 40000000 in
theorem s_l05PlantO (g o i d r l m s c e : Nat) (w : World) (h : PlantAtO w g o i d r l m s c e) : Calls Try.prog 96 #[.pointer (some ⟨g, o, none⟩)] w fun e' w' => e' = .returned (.bool (plantOk i d r l m s c e)) ∧ ∃ n, w' = w.drewN n := by
  obtain ⟨h0, h1, h2, h3, h4, h5, h6, h7⟩ := h
  have A0 := Lib.hid (fun W => s_l02Above i W)
  have A1 := Lib.hid (fun W => s_l02Least d W)
  have A2 := Lib.hid (fun W => s_l02Above r W)
  have A3 := Lib.hid (fun W => s_l02Above l W)
  have A4 := Lib.hid (fun W => s_l01Finite m W)
  have A6 := Lib.hid (fun W => s_l02Above s W)
  have A7 := Lib.hid (fun W => s_l01Finite c W)
  have A9 := Lib.hid (fun W => s_l02Above e W)
  have hdef : Hid (plantOk i d r l m s c e = (above i && least d && above r && above l && fin .f32 m && (FloatKind.f32.format.order m l == some Ordering.gt) && above s && fin .f32 c && (FloatKind.f32.format.order c s == some Ordering.gt) && above e)) := rfl
  generalize plantOk i d r l m s c e = D at *
  generalize above i = K0 at *
  generalize least d = K1 at *
  generalize above r = K2 at *
  generalize above l = K3 at *
  generalize fin .f32 m = K4 at *
  generalize above s = K6 at *
  generalize fin .f32 c = K7 at *
  generalize above e = K9 at *
  go_enter Try.func96, Try.ntmps96
  go_wp2_with fail
  dsimp only [List.append]
  refine wp_region_quiet_lit (by kernel_rfl) (by kernel_rfl) ?_
  repeat (go_big_quiet_step ((first | (go_at_call 118; exact Calls.quiet_of (A0.out _)))))
  cases K0
  · have e0 : Hid (D = false) := by show _ = _; rw [hdef.out]; simp only [Bool.and_true, Bool.and_false, Bool.true_and, Bool.false_and]
    refine wpQuiet_dead 79 2 _ [8] _ ?_ ?_ ?_ ?_
    · kernel_rfl
    · exact Nat.le_of_eq (by kernel_rfl)
    · intro s hs; rw [List.mem_singleton.1 hs]; kernel_rfl
    intro a' h8 h9
    rintro _ ⟨nq, rfl⟩
    rename_i hK
    refine hK _ _ (wp_ret ?_)
    refine bodyPost_ret (v := .bool false) ?_ h9 ⟨by rw [e0.out], _, rfl⟩
    simp [results, Try.results96, go_sem, h8]
  repeat (go_big_quiet_step ((first | (go_at_call 116; exact Calls.quiet_of (A1.out _)))))
  cases K1
  · have e0 : Hid (D = false) := by show _ = _; rw [hdef.out]; simp only [Bool.and_true, Bool.and_false, Bool.true_and, Bool.false_and]
    refine wpQuiet_dead 79 2 _ [15] _ ?_ ?_ ?_ ?_
    · kernel_rfl
    · exact Nat.le_of_eq (by kernel_rfl)
    · intro s hs; rw [List.mem_singleton.1 hs]; kernel_rfl
    intro a' h8 h9
    rintro _ ⟨nq, rfl⟩
    rename_i hK
    refine hK _ _ (wp_ret ?_)
    refine bodyPost_ret (v := .bool false) ?_ h9 ⟨by rw [e0.out], _, rfl⟩
    simp [results, Try.results96, go_sem, h8]
  repeat (go_big_quiet_step ((first | (go_at_call 118; exact Calls.quiet_of (A2.out _)))))
  cases K2
  · have e0 : Hid (D = false) := by show _ = _; rw [hdef.out]; simp only [Bool.and_true, Bool.and_false, Bool.true_and, Bool.false_and]
    refine wpQuiet_dead 79 2 _ [22] _ ?_ ?_ ?_ ?_
    · kernel_rfl
    · exact Nat.le_of_eq (by kernel_rfl)
    · intro s hs; rw [List.mem_singleton.1 hs]; kernel_rfl
    intro a' h8 h9
    rintro _ ⟨nq, rfl⟩
    rename_i hK
    refine hK _ _ (wp_ret ?_)
    refine bodyPost_ret (v := .bool false) ?_ h9 ⟨by rw [e0.out], _, rfl⟩
    simp [results, Try.results96, go_sem, h8]
  repeat (go_big_quiet_step ((first | (go_at_call 118; exact Calls.quiet_of (A3.out _)))))
  cases K3
  · have e0 : Hid (D = false) := by show _ = _; rw [hdef.out]; simp only [Bool.and_true, Bool.and_false, Bool.true_and, Bool.false_and]
    refine wpQuiet_dead 79 2 _ [29] _ ?_ ?_ ?_ ?_
    · kernel_rfl
    · exact Nat.le_of_eq (by kernel_rfl)
    · intro s hs; rw [List.mem_singleton.1 hs]; kernel_rfl
    intro a' h8 h9
    rintro _ ⟨nq, rfl⟩
    rename_i hK
    refine hK _ _ (wp_ret ?_)
    refine bodyPost_ret (v := .bool false) ?_ h9 ⟨by rw [e0.out], _, rfl⟩
    simp [results, Try.results96, go_sem, h8]
  repeat (go_big_quiet_step ((first | (go_at_call 117; exact Calls.quiet_of (A4.out _)))))
  cases K4
  · have e0 : Hid (D = false) := by show _ = _; rw [hdef.out]; simp only [Bool.and_true, Bool.and_false, Bool.true_and, Bool.false_and]
    refine wpQuiet_dead 79 2 _ [36] _ ?_ ?_ ?_ ?_
    · kernel_rfl
    · exact Nat.le_of_eq (by kernel_rfl)
    · intro s hs; rw [List.mem_singleton.1 hs]; kernel_rfl
    intro a' h8 h9
    rintro _ ⟨nq, rfl⟩
    rename_i hK
    refine hK _ _ (wp_ret ?_)
    refine bodyPost_ret (v := .bool false) ?_ h9 ⟨by rw [e0.out], _, rfl⟩
    simp [results, Try.results96, go_sem, h8]
  iterate 9 go_big_quiet_step (fail)
  generalize (FloatKind.f32.format.order m l == some Ordering.gt) = K5 at *
  iterate 2 go_big_quiet_step (fail)
  cases K5
  · have e0 : Hid (D = false) := by show _ = _; rw [hdef.out]; simp only [Bool.and_true, Bool.and_false, Bool.true_and, Bool.false_and]
    refine wpQuiet_dead 79 2 _ [47] _ ?_ ?_ ?_ ?_
    · kernel_rfl
    · exact Nat.le_of_eq (by kernel_rfl)
    · intro s hs; rw [List.mem_singleton.1 hs]; kernel_rfl
    intro a' h8 h9
    rintro _ ⟨nq, rfl⟩
    rename_i hK
    refine hK _ _ (wp_ret ?_)
    refine bodyPost_ret (v := .bool false) ?_ h9 ⟨by rw [e0.out], _, rfl⟩
    simp [results, Try.results96, go_sem, h8]
  repeat (go_big_quiet_step ((first | (go_at_call 118; exact Calls.quiet_of (A6.out _)))))
  cases K6
  · have e0 : Hid (D = false) := by show _ = _; rw [hdef.out]; simp only [Bool.and_true, Bool.and_false, Bool.true_and, Bool.false_and]
    refine wpQuiet_dead 79 2 _ [54] _ ?_ ?_ ?_ ?_
    · kernel_rfl
    · exact Nat.le_of_eq (by kernel_rfl)
    · intro s hs; rw [List.mem_singleton.1 hs]; kernel_rfl
    intro a' h8 h9
    rintro _ ⟨nq, rfl⟩
    rename_i hK
    refine hK _ _ (wp_ret ?_)
    refine bodyPost_ret (v := .bool false) ?_ h9 ⟨by rw [e0.out], _, rfl⟩
    simp [results, Try.results96, go_sem, h8]
  repeat (go_big_quiet_step ((first | (go_at_call 117; exact Calls.quiet_of (A7.out _)))))
  cases K7
  · have e0 : Hid (D = false) := by show _ = _; rw [hdef.out]; simp only [Bool.and_true, Bool.and_false, Bool.true_and, Bool.false_and]
    refine wpQuiet_dead 79 2 _ [61] _ ?_ ?_ ?_ ?_
    · kernel_rfl
    · exact Nat.le_of_eq (by kernel_rfl)
    · intro s hs; rw [List.mem_singleton.1 hs]; kernel_rfl
    intro a' h8 h9
    rintro _ ⟨nq, rfl⟩
    rename_i hK
    refine hK _ _ (wp_ret ?_)
    refine bodyPost_ret (v := .bool false) ?_ h9 ⟨by rw [e0.out], _, rfl⟩
    simp [results, Try.results96, go_sem, h8]
  iterate 9 go_big_quiet_step (fail)
  generalize (FloatKind.f32.format.order c s == some Ordering.gt) = K8 at *
  iterate 2 go_big_quiet_step (fail)
  cases K8
  · have e0 : Hid (D = false) := by show _ = _; rw [hdef.out]; simp only [Bool.and_true, Bool.and_false, Bool.true_and, Bool.false_and]
    refine wpQuiet_dead 79 2 _ [72] _ ?_ ?_ ?_ ?_
    · kernel_rfl
    · exact Nat.le_of_eq (by kernel_rfl)
    · intro s hs; rw [List.mem_singleton.1 hs]; kernel_rfl
    intro a' h8 h9
    rintro _ ⟨nq, rfl⟩
    rename_i hK
    refine hK _ _ (wp_ret ?_)
    refine bodyPost_ret (v := .bool false) ?_ h9 ⟨by rw [e0.out], _, rfl⟩
    simp [results, Try.results96, go_sem, h8]
  repeat (go_big_quiet_step ((first | (go_at_call 118; exact Calls.quiet_of (A9.out _)))))
  refine wpQuiet_nil ?_
  rintro _ ⟨nq, rfl⟩
  go_wp2
  go_ret
  exact ⟨by rw [hdef.out]; simp only [Bool.and_true, Bool.and_false, Bool.true_and, Bool.false_and]; rfl, _, rfl⟩
set_option maxRecDepth 100000 in
set_option maxHeartbeats 8000000 in
theorem s_l05Is_ofO (g o i d r l m s c e : Nat) (st : Int) (sp pi en : Nat) (w : World) (h : DrvAtO w g o i d r l m s c e st sp pi en) (A0 : Hid (Calls Try.prog 96 #[.pointer (some ⟨g, o, none⟩)] w fun e' w' => e' = .returned (.bool (plantOk i d r l m s c e)) ∧ ∃ m, w' = w.drewN m)) : Calls Try.prog 76 #[.pointer (some ⟨g, o, none⟩)] w fun e' w' => e' = .returned (.bool (drvOk i d r l m s c e st sp pi en)) ∧ ∃ n, w' = w.drewN n := by
  obtain ⟨-, h1, h2, h3, h4⟩ := h
  have A1 := Lib.hid (fun W => s_l00In st 0 4 W)
  have A2 := Lib.hid (fun W => s_l02Least sp W)
  have A5 := Lib.hid (fun W => s_l01Finite en W)
  have hdef : Hid (drvOk i d r l m s c e st sp pi en = (plantOk i d r l m s c e && inB st 0 4 && least sp && fromTo pi 0 1065353216 && fin .f32 en)) := rfl
  generalize drvOk i d r l m s c e st sp pi en = D at *
  generalize plantOk i d r l m s c e = K0 at *
  generalize inB st 0 4 = K1 at *
  generalize least sp = K2 at *
  generalize fin .f32 en = K5 at *
  go_enter Try.func76, Try.ntmps76
  go_wp2_with fail
  refine A0.out.mono ?_
  rintro e' w1 ⟨rfl, n, rfl⟩
  cases K0
  · have e : Hid (D = false) := by show _ = _; rw [hdef.out]; unfold fromTo; simp only [Bool.and_true, Bool.and_false, Bool.true_and, Bool.false_and]
    go_wp2
    all_goals
      go_ret
      exact ⟨by rw [e.out]; rfl, _, rfl⟩
  cases K1
  · have e : Hid (D = false) := by show _ = _; rw [hdef.out]; unfold fromTo; simp only [Bool.and_true, Bool.and_false, Bool.true_and, Bool.false_and]
    go_wp2_with (first | (go_at_call 90; refine (A1.out _).mono ?_; rintro e2 w2 ⟨rfl, n2, rfl⟩))
    all_goals
      go_ret
      exact ⟨by rw [e.out]; rfl, _, rfl⟩
  cases K2
  · have e : Hid (D = false) := by show _ = _; rw [hdef.out]; unfold fromTo; simp only [Bool.and_true, Bool.and_false, Bool.true_and, Bool.false_and]
    go_wp2_with (first | (go_at_call 90; refine (A1.out _).mono ?_; rintro e2 w2 ⟨rfl, n2, rfl⟩) | (go_at_call 116; refine (A2.out _).mono ?_; rintro e3 w3 ⟨rfl, n3, rfl⟩))
    all_goals
      go_ret
      exact ⟨by rw [e.out]; rfl, _, rfl⟩
  cases k3 : fge .f32 pi 0
  · have e : Hid (D = false) := by show _ = _; rw [hdef.out]; unfold fromTo; simp only [k3, Bool.and_true, Bool.and_false, Bool.true_and, Bool.false_and]
    unfold fge at k3
    go_wp2_with (first | (go_at_call 90; refine (A1.out _).mono ?_; rintro e2 w2 ⟨rfl, n2, rfl⟩) | (go_at_call 116; refine (A2.out _).mono ?_; rintro e3 w3 ⟨rfl, n3, rfl⟩))
    all_goals
      go_ret
      exact ⟨by rw [e.out]; rfl, _, rfl⟩
  cases k4 : fle .f32 pi 1065353216
  · have e : Hid (D = false) := by show _ = _; rw [hdef.out]; unfold fromTo; simp only [k3, k4, Bool.and_true, Bool.and_false, Bool.true_and, Bool.false_and]
    unfold fge at k3
    unfold fle at k4
    go_wp2_with (first | (go_at_call 90; refine (A1.out _).mono ?_; rintro e2 w2 ⟨rfl, n2, rfl⟩) | (go_at_call 116; refine (A2.out _).mono ?_; rintro e3 w3 ⟨rfl, n3, rfl⟩))
    all_goals
      go_ret
      exact ⟨by rw [e.out]; rfl, _, rfl⟩
  cases K5
  · have e : Hid (D = false) := by show _ = _; rw [hdef.out]; unfold fromTo; simp only [k3, k4, Bool.and_true, Bool.and_false, Bool.true_and, Bool.false_and]
    unfold fge at k3
    unfold fle at k4
    go_wp2_with (first | (go_at_call 90; refine (A1.out _).mono ?_; rintro e2 w2 ⟨rfl, n2, rfl⟩) | (go_at_call 116; refine (A2.out _).mono ?_; rintro e3 w3 ⟨rfl, n3, rfl⟩) | (go_at_call 117; refine (A5.out _).mono ?_; rintro e6 w6 ⟨rfl, n6, rfl⟩))
    all_goals
      go_ret
      exact ⟨by rw [e.out]; rfl, _, rfl⟩
  have e : Hid (D = true) := by show _ = _; rw [hdef.out]; unfold fromTo; simp only [k3, k4, Bool.and_true, Bool.and_false, Bool.true_and, Bool.false_and]
  unfold fge at k3
  unfold fle at k4
  go_wp2_with (first | (go_at_call 90; refine (A1.out _).mono ?_; rintro e2 w2 ⟨rfl, n2, rfl⟩) | (go_at_call 116; refine (A2.out _).mono ?_; rintro e3 w3 ⟨rfl, n3, rfl⟩) | (go_at_call 117; refine (A5.out _).mono ?_; rintro e6 w6 ⟨rfl, n6, rfl⟩))
  all_goals
    go_ret
    exact ⟨by rw [e.out]; rfl, _, rfl⟩
set_option maxRecDepth 100000 in
set_option maxHeartbeats 4000000 in
theorem s_l06IsO (g o : Nat) (vx vy : Value) (x y : List Nat) (r d s : Nat) (w : World) (hp : FarmAtO w g o vx vy r d s) (hx : RF w vx x) (hy : RF w vy y) : Calls Try.prog 77 #[.pointer (some ⟨g, o, none⟩)] w fun e' w' => e' = .returned (.bool (farmOk x y r d s)) ∧ ∃ n, w' = w.drewN n := by
  obtain ⟨px, cx, rfl, hmx, hcx⟩ := hx
  obtain ⟨py, cy, rfl, hmy, hcy⟩ := hy
  obtain ⟨h0, h1, h2, h3, h4⟩ := hp
  have HCX := Lib.hid hcx
  have HCY := Lib.hid hcy
  clear hcx hcy
  by_cases q0 : x.length < 1
  · have e0 : Hid (farmOk x y r d s = false) := farmOk_len (by omega)
    have q0' : (x.length : Int) < 1 := by omega
    go_enter Try.func77, Try.ntmps77
    go_wp2
    go_ret
    exact ⟨by rw [e0.out]; rfl, 0, rfl⟩
  have q0' : ¬ (x.length : Int) < 1 := by omega
  by_cases q1 : 12 < x.length
  · have e0 : Hid (farmOk x y r d s = false) := farmOk_len (by omega)
    have q1' : (12 : Int) < (x.length : Int) := by omega
    go_enter Try.func77, Try.ntmps77
    go_wp2
    go_ret
    exact ⟨by rw [e0.out]; rfl, 0, rfl⟩
  have q1' : ¬ (12 : Int) < (x.length : Int) := by omega
  by_cases q2 : y.length = x.length
  case neg =>
    have e0 : Hid (farmOk x y r d s = false) := farmOk_len (by omega)
    have q2' : ((y.length : Int) != (x.length : Int)) = true := by simp; omega
    go_enter Try.func77, Try.ntmps77
    go_wp2
    go_ret
    exact ⟨by rw [e0.out]; rfl, 0, rfl⟩
  have HP : Hid (farmOk x y r d s = (above r && !fgt .f32 r 1148846080 && above s && fromTo d 0 1056964608 && (nearAll x && nearAll y))) := farmOk_of (by omega) (by omega) q2
  rw [q2] at h1
  have Q2 := Lib.hid q2
  clear q2 hmy
  have A1 := Lib.hid (fun W => s_l02Above r W)
  have A2 := Lib.hid (fun W => s_l02Above s W)
  generalize above r = KR at *
  generalize above s = KS at *
  cases KR
  · have e0 : Hid (farmOk x y r d s = false) := by show _ = _; rw [HP.out]; simp only [Bool.false_and]
    go_enter Try.func77, Try.ntmps77
    go_wp2_with (first | (go_at_call 118; with_reducible refine (A1.out _).mono ?_; rintro e2 w2 ⟨rfl, n2, rfl⟩))
    go_ret
    exact ⟨by rw [e0.out]; rfl, _, rfl⟩
  cases k1 : fgt .f32 r 1148846080
  case true =>
    have e0 : Hid (farmOk x y r d s = false) := by show _ = _; rw [HP.out, k1]; simp only [Bool.not_true, Bool.and_false, Bool.false_and]
    unfold fgt at k1
    go_enter Try.func77, Try.ntmps77
    go_wp2_with (first | (go_at_call 118; with_reducible refine (A1.out _).mono ?_; rintro e2 w2 ⟨rfl, n2, rfl⟩))
    go_ret
    exact ⟨by rw [e0.out]; rfl, _, rfl⟩
  rw [k1] at HP
  unfold fgt at k1
  cases KS
  · have e0 : Hid (farmOk x y r d s = false) := by show _ = _; rw [HP.out]; simp only [Bool.and_false, Bool.false_and]
    go_enter Try.func77, Try.ntmps77
    go_wp2_with (first | (go_at_call 118; with_reducible refine (A1.out _).mono ?_; rintro e2 w2 ⟨rfl, n2, rfl⟩) | (go_at_call 118; with_reducible refine (A2.out _).mono ?_; rintro e3 w3 ⟨rfl, n3, rfl⟩))
    go_ret
    exact ⟨by rw [e0.out]; rfl, by first | exact ⟨_, rfl⟩ | (simp only [World.drewN_drewN]; exact ⟨_, rfl⟩)⟩
  cases k2 : fge .f32 d 0
  · have e0 : Hid (farmOk x y r d s = false) := by show _ = _; rw [HP.out]; unfold fromTo; rw [k2]; simp only [Bool.and_false, Bool.false_and]
    unfold fge at k2
    go_enter Try.func77, Try.ntmps77
    go_wp2_with (first | (go_at_call 118; with_reducible refine (A1.out _).mono ?_; rintro e2 w2 ⟨rfl, n2, rfl⟩) | (go_at_call 118; with_reducible refine (A2.out _).mono ?_; rintro e3 w3 ⟨rfl, n3, rfl⟩))
    go_ret
    exact ⟨by rw [e0.out]; rfl, by first | exact ⟨_, rfl⟩ | (simp only [World.drewN_drewN]; exact ⟨_, rfl⟩)⟩
  cases k3 : fle .f32 d 1056964608
  · have e0 : Hid (farmOk x y r d s = false) := by show _ = _; rw [HP.out]; unfold fromTo; rw [k3]; simp only [Bool.and_false, Bool.false_and]
    unfold fge at k2
    unfold fle at k3
    go_enter Try.func77, Try.ntmps77
    go_wp2_with (first | (go_at_call 118; with_reducible refine (A1.out _).mono ?_; rintro e2 w2 ⟨rfl, n2, rfl⟩) | (go_at_call 118; with_reducible refine (A2.out _).mono ?_; rintro e3 w3 ⟨rfl, n3, rfl⟩))
    go_ret
    exact ⟨by rw [e0.out]; rfl, by first | exact ⟨_, rfl⟩ | (simp only [World.drewN_drewN]; exact ⟨_, rfl⟩)⟩
  have HQ : Hid (farmOk x y r d s = (nearAll x && nearAll y)) := by show _ = _; rw [HP.out]; unfold fromTo; rw [k2, k3]; simp only [Bool.not_false, Bool.true_and]
  clear HP
  unfold fge at k2
  unfold fle at k3
  go_enter Try.func77, Try.ntmps77
  go_wp2_with (first | (go_at_call 118; with_reducible refine (A1.out _).mono ?_; rintro e2 w2 ⟨rfl, n2, rfl⟩) | (go_at_call 118; with_reducible refine (A2.out _).mono ?_; rintro e3 w3 ⟨rfl, n3, rfl⟩))
  clear A1 A2 k1 k2 k3
  go_loopw [4] (fun i wr => ∃ k n : Nat, k ≤ x.length ∧ i = .int .i64 k ∧ wr = w.drewN n ∧ ∀ j, j < k → near (x.getD j 0) = true ∧ near (y.getD j 0) = true) (fun i _ => x.length - (RowKit.intOf i).toNat)
  case atStart => exact ⟨0, n2 + n3, Nat.zero_le _, rfl, by simp only [World.drewN_drewN], fun j h => absurd h (Nat.not_lt_zero _)⟩
  case round =>
    obtain ⟨k, n, hk, rfl, rfl, hn⟩ := hrel
    by_cases hlt : k < x.length
    case neg =>
      have hk2 : k = x.length := by omega
      have e0 : Hid (farmOk x y r d s = true) := by show _ = _; rw [HQ.out, nearAll_yes (fun j hj => (hn j (by omega)).1), nearAll_yes (fun j hj => (hn j (by have := Q2.out; omega)).2)]; rfl
      clear hn hk
      subst hk2
      go_wp2
      go_ret
      exact ⟨by rw [e0.out]; rfl, n, rfl⟩
    obtain ⟨bx, ox, rfl, gx⟩ := HCX.out.resolve_left (by omega)
    obtain ⟨b_y, oy, rfl, gy⟩ := HCY.out.resolve_left (by have := Q2.out; omega)
    have hyk : k < y.length := by have := Q2.out; omega
    have c0 : w.cell? ⟨bx, ox + k, none⟩ = some (.float .f32 x[k]) := gx k _ (by simp [hlt])
    have c1 : w.cell? ⟨b_y, oy + k, none⟩ = some (.float .f32 y[k]) := gy k _ (by simp [hyk])
    have HX : Hid (near x[k] = false → farmOk x y r d s = false) := fun h => by rw [HQ.out, nearAll_no (y := y) k hlt (by rw [getD_at hlt]; exact h)]; rfl
    have HY : Hid (near y[k] = false → farmOk x y r d s = false) := fun h => by rw [HQ.out, nearAll_no (y := x) k hyk (by rw [getD_at hyk]; exact h), Bool.and_false]
    have HN := Lib.hid hn
    have ex : Hid (x.getD k 0 = x[k]) := getD_at hlt
    have ey : Hid (y.getD k 0 = y[k]) := getD_at hyk
    have A1 := Lib.hid (fun W => s_l06Near x[k] W)
    have A2 := Lib.hid (fun W => s_l06Near y[k] W)
    clear hn hk gx gy
    generalize x[k] = u at *
    generalize y[k] = v at *
    have hnu : Hid (∀ b, near u = b → near (x.getD k 0) = b) := fun b h => by rw [ex.out]; exact h
    have hnv : Hid (∀ b, near v = b → near (y.getD k 0) = b) := fun b h => by rw [ey.out]; exact h
    generalize hU : near u = KU at *
    generalize hV : near v = KV at *
    clear hU hV
    cases KU
    · have e0 : Hid (farmOk x y r d s = false) := HX.out rfl
      go_wp2_with (first | (go_at_call 120; with_reducible refine (A1.out _).mono ?_; rintro e2 w2 ⟨rfl, m2, rfl⟩))
      go_ret
      exact ⟨by rw [e0.out]; rfl, by first | exact ⟨_, rfl⟩ | (simp only [World.drewN_drewN]; exact ⟨_, rfl⟩)⟩
    cases KV
    · have e0 : Hid (farmOk x y r d s = false) := HY.out rfl
      go_wp2_with (first | (go_at_call 120; with_reducible refine (A1.out _).mono ?_; rintro e2 w2 ⟨rfl, m2, rfl⟩) | (go_at_call 120; with_reducible refine (A2.out _).mono ?_; rintro e3 w3 ⟨rfl, m3, rfl⟩))
      go_ret
      exact ⟨by rw [e0.out]; rfl, by first | exact ⟨_, rfl⟩ | (simp only [World.drewN_drewN]; exact ⟨_, rfl⟩)⟩
    go_wp2_with (first | (go_at_call 120; with_reducible refine (A1.out _).mono ?_; rintro e2 w2 ⟨rfl, m2, rfl⟩) | (go_at_call 120; with_reducible refine (A2.out _).mono ?_; rintro e3 w3 ⟨rfl, m3, rfl⟩))
    go_roundw
    case rel => exact ⟨k + 1, n + (m2 + m3), by omega, by go_num, by simp only [World.drewN_drewN, Nat.add_assoc], fun j hj => by
      by_cases hjk : j < k
      · exact HN.out j hjk
      · obtain rfl : j = k := by omega
        exact ⟨hnu.out _ rfl, hnv.out _ rfl⟩⟩
    case measure => simp [RowKit.intOf]; omega
end Go.Proofs.Ytglfjanclopipaa
