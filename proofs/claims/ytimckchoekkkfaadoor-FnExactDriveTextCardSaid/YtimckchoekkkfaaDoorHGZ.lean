/- Walks: the reference's text of a drive. -/
import Derived.Test.YtimckchoekkkfaaDoorHGA
import Derived.Test.YtimckchoekkkfaaDoorHF
import Derived.Test.YtimckchoekkkfaaDoorHFB
namespace Go.Proofs.YtimckchoekkkfaaDoor
set_option linter.unusedSimpArgs false
set_option linter.unusedVariables false
open Go.RowKit Go.Fl Go.Lib Go.Tx

theorem s_DriveText (i d r l m s c e : Nat) (st : Int) (sp pi en : Nat) (w : World) (hb1 : Bd [i, d, r, l, m, s, c, e]) (hb2 : Bd [sp, pi, en]) :
    Calls Tryd.prog 11 #[drvV i d r l m s c e st sp pi en] w (TextOut (drvOk i d r l m s c e st sp pi en) (driveB i d r l m s c e st sp pi en) w) := by
  have HQ := Lib.hid (fun W k (hk : k = W.heap.size) t => s_l05Is_of k i d r l m s c e st sp pi en _ (drv_top W k hk i d r l m s c e st sp pi en t) (Lib.hid (s_l05Plant k i d r l m s c e _ (drv_top W k hk i d r l m s c e st sp pi en t).1)))
  cases hok : drvOk i d r l m s c e st sp pi en
  · rw [hok] at HQ
    clear hok
    go_enter Tryd.func11, Tryd.ntmps11
    go_wp2_with (go_at_call 33; refine (HQ.out _ _ rfl _).mono ?_; rintro e w1 ⟨rfl, n, rfl⟩)
    go_ret2
    exact TextOut.no rfl (by repeat (first | exact Below.refl _ _ | assumption | refine below_drewN ?_ _ | refine below_alloc (Nat.le_refl _) ?_ _ | (refine Below.setCell ?_ (by first | exact Nat.le_refl _ | (simp; done) | (simp; omega) | omega) _) | (refine below_step (Nat.le_refl _) ?_ (by assumption))))
  · have hst : 0 ≤ st ∧ st ≤ 4 := by
      unfold drvOk at hok
      simp only [Bool.and_eq_true, inB_iff] at hok
      exact hok.1.1.1.2
    have HR := Lib.hid (fun W g (h : DrvAt W g i d r l m s c e st sp pi en) => s_l08Drive g i d r l m s c e st sp pi en W h hst.1 hst.2 hb1 hb2)
    rw [hok] at HQ
    clear hok hst hb1 hb2
    go_enter Tryd.func11, Tryd.ntmps11
    go_wp2_with (first | (go_at_call 33; refine (HQ.out _ _ rfl _).mono ?_; rintro e w1 ⟨rfl, n, rfl⟩) | (go_at_call 34; refine (HR.out _ _ ((drv_top _ _ rfl _ _ _ _ _ _ _ _ _ _ _ _ _).below (below_drewN (Below.refl _ _) n))).mono ?_; rintro e w2 ⟨rfl, hb2⟩))
    go_ret2
    exact TextOut.ok rfl (below_step (Nat.le_refl _) (below_drewN (below_alloc (Nat.le_refl _) (Below.refl _ _) _) n) hb2)
end Go.Proofs.YtimckchoekkkfaaDoor
