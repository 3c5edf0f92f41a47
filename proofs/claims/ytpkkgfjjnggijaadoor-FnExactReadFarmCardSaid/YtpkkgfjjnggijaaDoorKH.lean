/- Walks: the text of a farm. -/
import Derived.Test.YtpkkgfjjnggijaaDoorKG
namespace Go.Proofs.YtpkkgfjjnggijaaDoor
set_option linter.unusedSimpArgs false
set_option linter.unusedVariables false
open Go.RowKit Go.Fl Go.Lib

theorem nearAll_any (x : List Nat) : nearAll x = !x.any fun v => !near v := by
  unfold nearAll
  simp [List.any_eq_not_all_not]
theorem RF_top2K (w : World) (k : Nat) (hk : k = w.heap.size) (a b : Nat) (t : TypeId) : RF (w.alloc (.cells #[.float .f32 a, .float .f32 b] t)) (.slice (some ⟨k, 0, none⟩) 2 2) [a, b] := RF_top2 w k hk a b t
theorem two_top (w : World) (k : Nat) (hk : k = w.heap.size) (u v : Value) (t : TypeId) : (w.alloc (.cells #[u, v] t)).cell? ⟨k, 0, none⟩ = some u ∧ (w.alloc (.cells #[u, v] t)).cell? ⟨k, 1, none⟩ = some v := by
  subst hk
  refine ⟨?_, ?_⟩ <;> (rw [cell_of_row _ _ _ _ t (0, 0) (heap_alloc_new w _)]; rfl)
set_option maxRecDepth 100000 in
set_option maxHeartbeats 4000000 in
theorem i_ValidFarm (vx vy : Value) (x y : List Nat) (r d s : Nat) (w : World) (hx : RF w vx x) (hy : RF w vy y) : Calls Tryd.prog 43 #[farmV vx vy r d s] w fun e' w' => e' = .returned (.bool (farmOk x y r d s)) ∧ Below w.heap.size w w' := by
  have HX := Lib.hid hx
  have HY := Lib.hid hy
  obtain ⟨px, cx, rfl, hmx, -⟩ := hx
  obtain ⟨py, cy, rfl, hmy, -⟩ := hy
  by_cases q0 : x.length < 1
  · have e0 : Hid (farmOk x y r d s = false) := farmOk_len (by omega)
    have q0' : (x.length : Int) < 1 := by omega
    go_enter Tryd.func43, Tryd.ntmps43
    go_wp2
    go_ret
    exact ⟨by rw [e0.out]; rfl, (by repeat (first | exact Below.refl _ _ | assumption | refine below_drewN ?_ _ | refine below_alloc (Nat.le_refl _) ?_ _ | (refine Below.setCell ?_ (by first | exact Nat.le_refl _ | (simp; done) | (simp; omega) | omega) _) | (refine below_step (Nat.le_refl _) ?_ (by assumption))))⟩
  have q0' : ¬ (x.length : Int) < 1 := by omega
  by_cases q1 : 12 < x.length
  · have e0 : Hid (farmOk x y r d s = false) := farmOk_len (by omega)
    have q1' : (12 : Int) < (x.length : Int) := by omega
    go_enter Tryd.func43, Tryd.ntmps43
    go_wp2
    go_ret
    exact ⟨by rw [e0.out]; rfl, (by repeat (first | exact Below.refl _ _ | assumption | refine below_drewN ?_ _ | refine below_alloc (Nat.le_refl _) ?_ _ | (refine Below.setCell ?_ (by first | exact Nat.le_refl _ | (simp; done) | (simp; omega) | omega) _) | (refine below_step (Nat.le_refl _) ?_ (by assumption))))⟩
  have q1' : ¬ (12 : Int) < (x.length : Int) := by omega
  by_cases q2 : y.length = x.length
  case neg =>
    have e0 : Hid (farmOk x y r d s = false) := farmOk_len (by omega)
    have q2' : ((y.length : Int) != (x.length : Int)) = true := by simp; omega
    go_enter Tryd.func43, Tryd.ntmps43
    go_wp2
    go_ret
    exact ⟨by rw [e0.out]; rfl, (by repeat (first | exact Below.refl _ _ | assumption | refine below_drewN ?_ _ | refine below_alloc (Nat.le_refl _) ?_ _ | (refine Below.setCell ?_ (by first | exact Nat.le_refl _ | (simp; done) | (simp; omega) | omega) _) | (refine below_step (Nat.le_refl _) ?_ (by assumption))))⟩
  have HP : Hid (farmOk x y r d s = (aboveAll [r, s] && !fgt .f32 r 1148846080 && fromTo d 0 1056964608 && (nearAll x && nearAll y))) := by
    show _ = _
    rw [farmOk_of (by omega) (by omega) q2]
    unfold aboveAll
    simp only [List.all_cons, List.all_nil, Bool.and_true]
    cases above r <;> cases above s <;> cases fgt .f32 r 1148846080 <;> rfl
  have LX : Hid (1 ≤ x.length ∧ x.length ≤ 12) := ⟨by omega, by omega⟩
  have Q2 := Lib.hid q2
  have q2' : ((y.length : Int) != (x.length : Int)) = false := by simp; omega
  have A1 := Lib.hid (fun W k (hk : k = W.heap.size) => i_arePositive _ [r, s] _ (RF_top2K W k hk r s 22))
  have A2 := Lib.hid (fun W => i_isFromTo d 0 1056964608 W)
  clear q2 hmy hmx
  generalize aboveAll [r, s] = KR at *
  generalize fromTo d 0 1056964608 = KD at *
  cases KR
  · have e0 : Hid (farmOk x y r d s = false) := by show _ = _; rw [HP.out]; simp only [Bool.false_and]
    go_enter Tryd.func43, Tryd.ntmps43
    go_wp2_with (first | (go_at_call 35; with_reducible refine (A1.out _ _ (by simp)).mono ?_; rintro e2 w2 ⟨rfl, n2, rfl⟩))
    go_ret
    exact ⟨by rw [e0.out]; rfl, (by repeat (first | exact Below.refl _ _ | assumption | refine below_drewN ?_ _ | refine below_alloc (Nat.le_refl _) ?_ _ | (refine Below.setCell ?_ (by first | exact Nat.le_refl _ | (simp; done) | (simp; omega) | omega) _) | (refine below_step (Nat.le_refl _) ?_ (by assumption))))⟩
  cases k1 : fgt .f32 r 1148846080
  case true =>
    have e0 : Hid (farmOk x y r d s = false) := by show _ = _; rw [HP.out, k1]; simp only [Bool.not_true, Bool.and_false, Bool.false_and]
    unfold fgt at k1
    go_enter Tryd.func43, Tryd.ntmps43
    go_wp2_with (first | (go_at_call 35; with_reducible refine (A1.out _ _ (by simp)).mono ?_; rintro e2 w2 ⟨rfl, n2, rfl⟩))
    go_ret
    exact ⟨by rw [e0.out]; rfl, (by repeat (first | exact Below.refl _ _ | assumption | refine below_drewN ?_ _ | refine below_alloc (Nat.le_refl _) ?_ _ | (refine Below.setCell ?_ (by first | exact Nat.le_refl _ | (simp; done) | (simp; omega) | omega) _) | (refine below_step (Nat.le_refl _) ?_ (by assumption))))⟩
  rw [k1] at HP
  unfold fgt at k1
  cases KD
  · have e0 : Hid (farmOk x y r d s = false) := by show _ = _; rw [HP.out]; simp only [Bool.and_false, Bool.false_and]
    go_enter Tryd.func43, Tryd.ntmps43
    go_wp2_with (first | (go_at_call 35; with_reducible refine (A1.out _ _ (by simp)).mono ?_; rintro e2 w2 ⟨rfl, n2, rfl⟩) | (go_at_call 37; with_reducible refine (A2.out _).mono ?_; rintro e3 w3 ⟨rfl, n3, rfl⟩))
    go_ret
    exact ⟨by rw [e0.out]; rfl, (by repeat (first | exact Below.refl _ _ | assumption | refine below_drewN ?_ _ | refine below_alloc (Nat.le_refl _) ?_ _ | (refine Below.setCell ?_ (by first | exact Nat.le_refl _ | (simp; done) | (simp; omega) | omega) _) | (refine below_step (Nat.le_refl _) ?_ (by assumption))))⟩
  have HQ : Hid (farmOk x y r d s = (nearAll x && nearAll y)) := by show _ = _; rw [HP.out]; simp only [Bool.not_false, Bool.true_and]
  clear HP
  have HCC := Lib.hid (fun g W (g0 : W.cell? ⟨g, 0, none⟩ = some (.slice px x.length cx)) (g1 : W.cell? ⟨g, 1, none⟩ = some (.slice py y.length cy)) (hb : Below w.heap.size w W) => f_Concat2 g 0 _ _ x y W g0 g1 (RF_below HX.out hb) (RF_below HY.out hb) LX.out.1 (by have := LX.out; omega) (by have := LX.out; have := Q2.out; omega) (by have := LX.out; have := Q2.out; omega))
  have HCF := Lib.hid (fun u W (h : RF W u (x ++ y)) => f_ContainsFunc_f32 _ (fun v => !near v) (run_enter Tryd.func61 (by kernel_rfl) rfl) i_ValidFarm_1 u (x ++ y) W h)
  go_enter Tryd.func43, Tryd.ntmps43
  go_wp2_with (first | (go_at_call 35; with_reducible refine (A1.out _ _ (by simp)).mono ?_; rintro e2 w2 ⟨rfl, n2, rfl⟩) | (go_at_call 37; with_reducible refine (A2.out _).mono ?_; rintro e3 w3 ⟨rfl, n3, rfl⟩))
  refine (HCC.out _ _ ?_ ?_ ?_).mono ?_
  case _ => exact (two_top _ _ (by simp) _ _ _).1
  case _ => exact (two_top _ _ (by simp) _ _ _).2
  case _ => exact (by repeat (first | exact Below.refl _ _ | assumption | refine below_drewN ?_ _ | refine below_alloc (Nat.le_refl _) ?_ _ | (refine Below.setCell ?_ (by first | exact Nat.le_refl _ | (simp; done) | (simp; omega) | omega) _) | (refine below_step (Nat.le_refl _) ?_ (by assumption))))
  rintro e4 w4 ⟨u, rfl, HO, hb4⟩
  have HU := Lib.hid (RF_of_own HO (by simp; have := LX.out; have := Q2.out; omega))
  have HB := Lib.hid (show Below w.heap.size w w4 from below_step (Nat.le_refl _) ((by repeat (first | exact Below.refl _ _ | assumption | refine below_drewN ?_ _ | refine below_alloc (Nat.le_refl _) ?_ _ | (refine Below.setCell ?_ (by first | exact Nat.le_refl _ | (simp; done) | (simp; omega) | omega) _) | (refine below_step (Nat.le_refl _) ?_ (by assumption))))) hb4)
  clear HO hb4
  go_wp2_with fail
  refine (HCF.out _ _ HU.out).mono ?_
  rintro e5 w5 ⟨rfl, n5, rfl⟩
  go_wp2
  go_ret
  exact ⟨by rw [HQ.out, nearAll_any x, nearAll_any y]; rfl, below_drewN HB.out n5⟩
end Go.Proofs.YtpkkgfjjnggijaaDoor
