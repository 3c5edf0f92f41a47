/- Walks: roots, and the rate of a tower. -/
import Derived.Test.YtpelhdohomjdpaaB
import Derived.Test.YtpelhdohomjdpaaN
namespace Go.Proofs.Ytpelhdohomjdpaa
set_option linter.unusedSimpArgs false
set_option linter.unusedVariables false
open Go.RowKit Go.Fl

theorem run_sqrt64 (x : Nat) (w : World) : ∃ r n, (callFunc 72 #[.float .f64 x]).run Try.prog w = .ok (.value (.float .f64 r)) (w.drewN n) ∧ Hid (cn .f64 r = rt .f64 x) := by
  obtain ⟨r, n, hr, hc⟩ := run_sqrt (P := Try.prog) w x
  refine ⟨r, n, ?_, hc⟩
  rw [run_callFunc_extern (e := Extern.MathSqrt.sqrt) Try.func72 (by kernel_rfl) (by kernel_rfl) (by kernel_rfl) (by kernel_rfl), hr]
  rfl
theorem f_Sqrt (x : Nat) (w : World) : Calls Try.prog 53 #[.float .f64 x] w fun e w' => ∃ r, e = .returned (.float .f64 r) ∧ cn .f64 r = rt .f64 x ∧ ∃ n, w' = w.drewN n := by
  obtain ⟨r, n, hr, hc⟩ := run_sqrt64 x w
  go_enter Try.func53, Try.ntmps53
  go_wp2
  go_ret
  exact ⟨_, rfl, hc.out, _, rfl⟩
theorem fits_of {x : Nat} {y : Nat} (h : Hid (cn .f64 y = rt .f64 (widen x))) : Hid (fits (rt .f64 (widen x))) := root_fits x
theorem rt_of {r s x : Nat} (hr : Hid (cn .f64 r = widen x)) (hs : cn .f64 s = rt .f64 r) : cn .f64 s = rt .f64 (widen x) := by rw [hs, ← rt_cn, hr.out]
theorem i_RootNumber (x : Nat) (w : World) : Calls Try.prog 60 #[.float .f32 x] w fun e w' => ∃ r, e = .returned (.float .f32 r) ∧ cn .f32 r = root32 x ∧ ∃ n, w' = w.drewN n := by
  go_enter Try.func60, Try.ntmps60
  go_wp2_with (first | (refine wpList_widen (dst := 59) rfl rfl rfl (by kernel_rfl) (by exact Try.underlying59) (by first | assumption | exact hrfl _) ?_; intro r n hr) | (go_at_call 53; refine (f_Sqrt _ _).mono ?_; rintro e w' ⟨s, rfl, hs, n', rfl⟩; replace hs := Lib.hid (rt_of hr hs); have hfits := fits_of hs) | (refine wpList_narrow (dst := 22) rfl rfl rfl (by kernel_rfl) Try.underlying22 hs hfits ?_; intro r' n'' hr'))
  go_ret
  exact ⟨_, rfl, by rw [hr'.out]; exact root32_cn x, _, rfl⟩
theorem s_l01Narrow (x y : Nat) (w : World) (h : cn .f64 x = y) (hf : fits y) : Calls Try.prog 73 #[.float .f64 x] w fun e w' => ∃ r, e = .returned (.float .f32 r) ∧ cn .f32 r = narrow y ∧ ∃ n, w' = w.drewN n := by
  have H := Lib.hid h
  have HF := Lib.hid hf
  clear h hf
  go_enter Try.func73, Try.ntmps73
  go_wp2_with (refine wpList_narrow (dst := 22) rfl rfl rfl (by kernel_rfl) Try.underlying22 H HF ?_; intro r n hr)
  go_ret
  exact ⟨_, rfl, hr.out, _, rfl⟩
theorem s_l01Sqrt (x : Nat) (w : World) : Calls Try.prog 58 #[.float .f32 x] w fun e w' => ∃ r, e = .returned (.float .f32 r) ∧ cn .f32 r = root32 x ∧ ∃ n, w' = w.drewN n := by
  go_enter Try.func58, Try.ntmps58
  go_wp2_with (first | (refine wpList_widen (dst := 59) rfl rfl rfl (by kernel_rfl) (by exact Try.underlying59) (by first | assumption | exact hrfl _) ?_; intro r n hr) | (go_at_call 53; refine (f_Sqrt _ _).mono ?_; rintro e w' ⟨s, rfl, hs, n', rfl⟩; replace hs := Lib.hid (rt_of hr hs); have hfits := fits_of hs) | (go_at_call 73; refine (s_l01Narrow _ _ _ hs.out hfits.out).mono ?_; rintro e w' ⟨r', rfl, hr', n', rfl⟩; replace hr' := Lib.hid hr'))
  go_ret
  exact ⟨_, rfl, by rw [hr'.out]; exact root32_cn x, _, rfl⟩
/-- How fast a tower swings. -/
def rate (m s : Nat) : Nat := fa .quo .f32 (root32 (fa .quo .f32 s m)) 1086918619
theorem root32_of {r x s : Nat} (hr : Hid (cn .f32 r = x)) (hs : cn .f32 s = root32 r) : cn .f32 s = root32 x := by rw [hs, ← root32_cn, hr.out]
def RootRel (F : Nat) (f : FuncId) (args : Array Value) (u : Value) : Prop := ∀ x, args = #[.float .f32 x] → f = F → ∃ r, u = .float .f32 r ∧ cn .f32 r = root32 x
set_option maxHeartbeats 400000 in
theorem s_l07Rate (b m d s : Nat) (w : World) (h : TowAt w b m d s) : Calls Try.prog 35 #[.pointer (some ⟨b, 0, none⟩)] w fun e w' => ∃ r, e = .returned (.float .f32 r) ∧ cn .f32 r = rate m s ∧ ∃ n, w' = w.drewN n := by
  obtain ⟨h0, h1, h2⟩ := h
  go_enter Try.func35, Try.ntmps35
  go_wp2_with fail
  ((refine wp_region_rq_lit (RootRel 58) (by kernel_rfl) (by kernel_rfl) ?_); (iterate 8 (refine wpRq_det' (by kernel_rfl) (fun K hK => ?_); go_simp; refine hK _ ?_; clear hK K)); (refine wpRq_fa rfl rfl (by kernel_rfl) rfl rfl (by first | assumption | exact hrfl _) (by first | assumption | exact hrfl _) ?_; intro r hr); (refine wpRq_call1 (f := 58) (X := .float .f32 r) rfl (by kernel_rfl) rfl (run_enter Try.func58 (by kernel_rfl) rfl) (fun n => (s_l01Sqrt r _).mono (fun e w' ⟨q, he, hq, hn⟩ => ⟨_, he, fun x hx _ => ⟨q, rfl, by cases hx; exact hq⟩, hn⟩)) ?_; intro v hv; obtain ⟨q, rfl, hq⟩ := hv _ rfl rfl; replace hq := Lib.hid (root32_of hr hq)); (refine wpRq_fa rfl rfl (by kernel_rfl) rfl rfl (by first | assumption | exact hrfl _) (by first | assumption | exact hrfl _) ?_; intro r hr); (refine wpRq_det' (by kernel_rfl) (fun K hK => ?_); go_simp; refine hK _ ?_; clear hK K); (refine wpRq_nil ?_); intro nq)
  go_wp2
  go_ret
  exact ⟨_, rfl, by rw [hr.out]; simp only [rate, fa_cn_left, fa_cn_right], _, rfl⟩
theorem i_TowerRate (m d s : Nat) (w : World) : Calls Try.prog 36 #[tow m d s] w (Num1 (towerOk m d s) (rate m s) w) := by
  cases hok : towerOk m d s
  all_goals
    have HK := Lib.hid hok
    clear hok
    go_enter Try.func36, Try.ntmps36
    go_wp2_with (first | (go_at_call 59; refine (i_ValidTower _ _ _ _).mono ?_; rintro e w' ⟨rfl, hb⟩; rw [HK.out]; have hT := TowAt.below (b := w.heap.size) (m := m) (d := d) (s := s) (by first | exact tow_top _ _ (by simp) _ _ _ _ | exact ⟨by assumption, by assumption, by assumption⟩) hb (by first | (simp; done) | exact block_lt_of_cell (by assumption)); obtain ⟨c0, c1, c2⟩ := hT; have hz : w.heap.size < _ := block_lt_of_cell c0) | (refine wpList_fa rfl rfl rfl rfl rfl (by first | assumption | exact hrfl _) (by first | assumption | exact hrfl _) ?_; intro r n hr) | (go_at_call 60; refine (i_RootNumber _ _).mono ?_; rintro e w' ⟨q, rfl, hq, n', rfl⟩; replace hq := Lib.hid (root32_of hr hq)) | (go_at_call 51; refine (i_checked _ _).mono ?_; rintro e w' ⟨rfl, n, rfl⟩))
    go_ret2
    first
      | exact Num1.no rfl (by repeat (first | exact Below.refl _ _ | assumption | refine below_drewN ?_ _ | refine below_alloc (Nat.le_refl _) ?_ _ | (refine Below.setCell ?_ (by first | exact Nat.le_refl _ | (simp; done) | (simp; omega) | omega) _) | (refine below_step (Nat.le_refl _) ?_ (by assumption))))
      | exact Num1.ok rfl (by rw [hr.out]; simp only [rate, fa_cn_left, fa_cn_right, cn_fa]) (by repeat (first | exact Below.refl _ _ | assumption | refine below_drewN ?_ _ | refine below_alloc (Nat.le_refl _) ?_ _ | (refine Below.setCell ?_ (by first | exact Nat.le_refl _ | (simp; done) | (simp; omega) | omega) _) | (refine below_step (Nat.le_refl _) ?_ (by assumption))))
end Go.Proofs.Ytpelhdohomjdpaa
