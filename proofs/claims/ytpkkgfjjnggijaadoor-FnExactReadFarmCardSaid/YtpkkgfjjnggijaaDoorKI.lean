/- Walks: the text of a farm, both. -/
import Derived.Test.YtpkkgfjjnggijaaDoorKH
namespace Go.Proofs.YtpkkgfjjnggijaaDoor
set_option linter.unusedSimpArgs false
set_option linter.unusedVariables false
open Go.RowKit Go.Fl Go.Lib

set_option maxHeartbeats 1000000 in
theorem l_eqFarm (vx vy ux uy : Value) (x y : List Nat) (r d s : Nat) (w : World) (hx : RF w vx x) (hy : RF w vy y) (kx : RF w ux x) (ky : RF w uy y) : Calls Tryd.prog 16 #[farmV vx vy r d s, farmV ux uy r d s] w fun e' w' => e' = .returned (.bool true) ∧ Below w.heap.size w w' := by
  have H1 := Lib.hid (fun W (hb : Below w.heap.size w W) => l_eqFloat32S vx ux x x W (RF_below hx hb) (RF_below kx hb) (FEq.refl _))
  have H2 := Lib.hid (fun W (hb : Below w.heap.size w W) => l_eqFloat32S vy uy y y W (RF_below hy hb) (RF_below ky hb) (FEq.refl _))
  go_enter Tryd.func16, Tryd.ntmps16
  go_wp2_with fail
  refine (H1.out _ (by repeat (first | exact Below.refl _ _ | assumption | refine below_drewN ?_ _ | refine below_alloc (Nat.le_refl _) ?_ _ | (refine Below.setCell ?_ (by first | exact Nat.le_refl _ | (simp; done) | (simp; omega) | omega) _) | (refine below_step (Nat.le_refl _) ?_ (by assumption))))).mono ?_
  rintro e w1 ⟨rfl, n1, rfl⟩
  go_wp2_with fail
  refine (H2.out _ (by repeat (first | exact Below.refl _ _ | assumption | refine below_drewN ?_ _ | refine below_alloc (Nat.le_refl _) ?_ _ | (refine Below.setCell ?_ (by first | exact Nat.le_refl _ | (simp; done) | (simp; omega) | omega) _) | (refine below_step (Nat.le_refl _) ?_ (by assumption))))).mono ?_
  rintro e w1 ⟨rfl, n2, rfl⟩
  go_wp2_with (first | (refine wpList_widen (dst := 46) rfl rfl rfl (by kernel_rfl) (by exact Tryd.underlying46) (by first | assumption | exact hrfl _) ?_; intro r n hr) | (go_at_call 22; refine (l_sameFloat _ _ (Eq.trans (Hid.out (by assumption)) (Eq.symm (Hid.out (by assumption)))) _).mono ?_; rintro e w' ⟨rfl, n, rfl⟩))
  go_ret
  exact ⟨rfl, (by repeat (first | exact Below.refl _ _ | assumption | refine below_drewN ?_ _ | refine below_alloc (Nat.le_refl _) ?_ _ | (refine Below.setCell ?_ (by first | exact Nat.le_refl _ | (simp; done) | (simp; omega) | omega) _) | (refine below_step (Nat.le_refl _) ?_ (by assumption))))⟩
theorem FarmAt.other {w : World} {g k i : Nat} {vx vy v : Value} {r d s : Nat} (h : FarmAt w g vx vy r d s) (hk : g ≠ k) : FarmAt (w.setCell ⟨k, i, none⟩ v) g vx vy r d s := by
  obtain ⟨h0, h1, h2, h3, h4⟩ := h
  exact ⟨(World.cell?_setCell_other _ _ _ _ (ne_addr hk)).trans h0, (World.cell?_setCell_other _ _ _ _ (ne_addr hk)).trans h1, (World.cell?_setCell_other _ _ _ _ (ne_addr hk)).trans h2, (World.cell?_setCell_other _ _ _ _ (ne_addr hk)).trans h3, (World.cell?_setCell_other _ _ _ _ (ne_addr hk)).trans h4⟩
theorem FarmAt.set0 {w : World} {k : Nat} {vx vy v : Value} {r d s : Nat} (h : FarmAt w k vx vy r d s) : FarmAt (w.setCell ⟨k, 0, none⟩ v) k v vy r d s := by
  obtain ⟨h0, h1, h2, h3, h4⟩ := h
  exact ⟨World.cell?_setCell_same _ _ _ h0, (World.cell?_setCell_other _ _ _ _ (off_ne (by decide))).trans h1, (World.cell?_setCell_other _ _ _ _ (off_ne (by decide))).trans h2, (World.cell?_setCell_other _ _ _ _ (off_ne (by decide))).trans h3, (World.cell?_setCell_other _ _ _ _ (off_ne (by decide))).trans h4⟩
theorem FarmAt.set1 {w : World} {k : Nat} {vx vy v : Value} {r d s : Nat} (h : FarmAt w k vx vy r d s) : FarmAt (w.setCell ⟨k, 1, none⟩ v) k vx v r d s := by
  obtain ⟨h0, h1, h2, h3, h4⟩ := h
  exact ⟨(World.cell?_setCell_other _ _ _ _ (off_ne (by decide))).trans h0, World.cell?_setCell_same _ _ _ h1, (World.cell?_setCell_other _ _ _ _ (off_ne (by decide))).trans h2, (World.cell?_setCell_other _ _ _ _ (off_ne (by decide))).trans h3, (World.cell?_setCell_other _ _ _ _ (off_ne (by decide))).trans h4⟩
end Go.Proofs.YtpkkgfjjnggijaaDoor
