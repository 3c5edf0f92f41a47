/- Walks: the ends of loads, asked for. -/
import Derived.Test.YtmpmnhnobgidoaaI
namespace Go.Proofs.Ytmpmnhnobgidoaa
set_option linter.unusedSimpArgs false
set_option linter.unusedVariables false
open Go.RowKit Go.Fl

theorem i_EndsOf (v : Value) (xs : List Nat) (w : World) (hx : RF w v xs) (hl : xs.length ≤ 1048576) : Calls Try.prog 21 #[v] w (ListOut (loadsOk xs) (ends xs) w) := by
  cases hg : loadsOk xs
  all_goals
    have HG := Lib.hid hg
    clear hg
    go_enter Try.func21, Try.ntmps21
    go_wp2_with (go_at_call 48; refine (i_areLoads _ xs _ hx).mono ?_; rintro e w' ⟨rfl, n, rfl⟩; rw [HG.out])
  · go_ret2
    exact ListOut.no rfl (by repeat (first | exact Below.refl _ _ | assumption | refine below_drewN ?_ _ | refine below_alloc (Nat.le_refl _) ?_ _ | (refine Below.setCell ?_ (by first | exact Nat.le_refl _ | (simp; done) | (simp; omega) | omega) _) | (refine below_step (Nat.le_refl _) ?_ (by assumption))))
  · refine (i_endsOf _ xs _ (hx.drewN _) hl).mono ?_
    rintro e w' ⟨u, rfl, O, hb⟩
    go_wp2
    go_ret2
    exact ListOut.ok rfl O rfl (by repeat (first | exact Below.refl _ _ | assumption | refine below_drewN ?_ _ | refine below_alloc (Nat.le_refl _) ?_ _ | (refine Below.setCell ?_ (by first | exact Nat.le_refl _ | (simp; done) | (simp; omega) | omega) _) | (refine below_step (Nat.le_refl _) ?_ (by assumption))))
end Go.Proofs.Ytmpmnhnobgidoaa
