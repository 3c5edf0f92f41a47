/- Walks: roots, and the rate of a tower. -/
import Derived.Test.YtmpmnhnobgidoaaB
import Derived.Test.YtmpmnhnobgidoaaN
namespace Go.Proofs.Ytmpmnhnobgidoaa
set_option linter.unusedSimpArgs false
set_option linter.unusedVariables false
open Go.RowKit Go.Fl

theorem run_sqrt64 (x : Nat) (w : World) : ∃ r n, (callFunc 84 #[.float .f64 x]).run Try.prog w = .ok (.value (.float .f64 r)) (w.drewN n) ∧ Hid (cn .f64 r = rt .f64 x) := by
  obtain ⟨r, n, hr, hc⟩ := run_sqrt (P := Try.prog) w x
  refine ⟨r, n, ?_, hc⟩
  rw [run_callFunc_extern (e := Extern.MathSqrt.sqrt) Try.func84 (by kernel_rfl) (by kernel_rfl) (by kernel_rfl) (by kernel_rfl), hr]
  rfl
theorem f_Sqrt (x : Nat) (w : World) : Calls Try.prog 51 #[.float .f64 x] w fun e w' => ∃ r, e = .returned (.float .f64 r) ∧ cn .f64 r = rt .f64 x ∧ ∃ n, w' = w.drewN n := by
  obtain ⟨r, n, hr, hc⟩ := run_sqrt64 x w
  go_enter Try.func51, Try.ntmps51
  go_wp2
  go_ret
  exact ⟨_, rfl, hc.out, _, rfl⟩
theorem fits_of {x : Nat} {y : Nat} (h : Hid (cn .f64 y = rt .f64 (widen x))) : Hid (fits (rt .f64 (widen x))) := root_fits x
theorem rt_of {r s x : Nat} (hr : Hid (cn .f64 r = widen x)) (hs : cn .f64 s = rt .f64 r) : cn .f64 s = rt .f64 (widen x) := by rw [hs, ← rt_cn, hr.out]
theorem i_RootNumber (x : Nat) (w : World) : Calls Try.prog 61 #[.float .f32 x] w fun e w' => ∃ r, e = .returned (.float .f32 r) ∧ cn .f32 r = root32 x ∧ ∃ n, w' = w.drewN n := by
  go_enter Try.func61, Try.ntmps61
  go_wp2_with (first | (refine wpList_widen (dst := 37) rfl rfl rfl (by kernel_rfl) (by exact Try.underlying37) (by first | assumption | exact hrfl _) ?_; intro r n hr) | (go_at_call 51; refine (f_Sqrt _ _).mono ?_; rintro e w' ⟨s, rfl, hs, n', rfl⟩; replace hs := Lib.hid (rt_of hr hs); have hfits := fits_of hs) | (refine wpList_narrow (dst := 26) rfl rfl rfl (by kernel_rfl) Try.underlying26 hs hfits ?_; intro r' n'' hr'))
  go_ret
  exact ⟨_, rfl, by rw [hr'.out]; exact root32_cn x, _, rfl⟩
theorem s_l01Narrow (x y : Nat) (w : World) (h : cn .f64 x = y) (hf : fits y) : Calls Try.prog 114 #[.float .f64 x] w fun e w' => ∃ r, e = .returned (.float .f32 r) ∧ cn .f32 r = narrow y ∧ ∃ n, w' = w.drewN n := by
  have H := Lib.hid h
  have HF := Lib.hid hf
  clear h hf
  go_enter Try.func114, Try.ntmps114
  go_wp2_with (refine wpList_narrow (dst := 26) rfl rfl rfl (by kernel_rfl) Try.underlying26 H HF ?_; intro r n hr)
  go_ret
  exact ⟨_, rfl, hr.out, _, rfl⟩
/-- How fast a tower swings. -/
def rate (m s : Nat) : Nat := fa .quo .f32 (root32 (fa .quo .f32 s m)) 1086918619
theorem root32_of {r x s : Nat} (hr : Hid (cn .f32 r = x)) (hs : cn .f32 s = root32 r) : cn .f32 s = root32 x := by rw [hs, ← root32_cn, hr.out]
theorem i_TowerRate (m d s : Nat) (w : World) : Calls Try.prog 27 #[tow m d s] w (Num1 (towerOk m d s) (rate m s) w) := by
  cases hok : towerOk m d s
  all_goals
    have HK := Lib.hid hok
    clear hok
    go_enter Try.func27, Try.ntmps27
    go_wp2_with (first | (go_at_call 30; refine (i_ValidTower _ _ _ _).mono ?_; rintro e w' ⟨rfl, hb⟩; rw [HK.out]; have hT := TowAt.below (b := w.heap.size) (m := m) (d := d) (s := s) (by first | exact tow_top _ _ (by simp) _ _ _ _ | exact ⟨by assumption, by assumption, by assumption⟩) hb (by first | (simp; done) | exact block_lt_of_cell (by assumption)); obtain ⟨c0, c1, c2⟩ := hT; have hz : w.heap.size < _ := block_lt_of_cell c0) | (refine wpList_fa rfl rfl rfl rfl rfl (by first | assumption | exact hrfl _) (by first | assumption | exact hrfl _) ?_; intro r n hr) | (go_at_call 61; refine (i_RootNumber _ _).mono ?_; rintro e w' ⟨q, rfl, hq, n', rfl⟩; replace hq := Lib.hid (root32_of hr hq)) | (go_at_call 49; refine (i_checked _ _).mono ?_; rintro e w' ⟨rfl, n, rfl⟩))
    go_ret2
    first
      | exact Num1.no rfl (by repeat (first | exact Below.refl _ _ | assumption | refine below_drewN ?_ _ | refine below_alloc (Nat.le_refl _) ?_ _ | (refine Below.setCell ?_ (by first | exact Nat.le_refl _ | (simp; done) | (simp; omega) | omega) _) | (refine below_step (Nat.le_refl _) ?_ (by assumption))))
      | exact Num1.ok rfl (by rw [hr.out]; simp only [rate, fa_cn_left, fa_cn_right, cn_fa]) (by repeat (first | exact Below.refl _ _ | assumption | refine below_drewN ?_ _ | refine below_alloc (Nat.le_refl _) ?_ _ | (refine Below.setCell ?_ (by first | exact Nat.le_refl _ | (simp; done) | (simp; omega) | omega) _) | (refine below_step (Nat.le_refl _) ?_ (by assumption))))
end Go.Proofs.Ytmpmnhnobgidoaa
