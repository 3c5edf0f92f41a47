/- Walks: the law's own copies of a plant and a drive. -/
import Derived.Test.YtglfjanclopipaaHFA
namespace Go.Proofs.Ytglfjanclopipaa
set_option linter.unusedSimpArgs false
set_option linter.unusedVariables false
open Go.RowKit Go.Fl Go.Lib
theorem frozen_new (w w' : World) (k : Nat) (hk : k = w.heap.size) (cs : Array Value) (t : TypeId) (hb : Below (w.alloc (.cells cs t)).heap.size (w.alloc (.cells cs t)) w') (j : Nat) : w'.frozen? ⟨k, j, none⟩ = false := by
  subst hk
  have h : w'.heap[w.heap.size]? = some (.cells cs t) := (hb.block _ (by simp)).trans (heap_alloc_new w _)
  simp [World.frozen?, h]
set_option maxRecDepth 100000 in
set_option maxHeartbeats 4000000 in
theorem l_toPlant (i d r l m s c e : Nat) (w : World) : Calls Try.prog 61 #[plantV i d r l m s c e] w fun e' w' => e' = .returned (plantV i d r l m s c e) ∧ Below w.heap.size w w' := by
  go_enter Try.func61, Try.ntmps61
  go_wp2
  exact bodyPost_ret (v := plantV i d r l m s c e) (by simp [results, Try.results61, go_sem]) rfl ⟨rfl, (by repeat (first | exact Below.refl _ _ | assumption | refine below_drewN ?_ _ | refine below_alloc (Nat.le_refl _) ?_ _ | (refine Below.setCell ?_ (by first | exact Nat.le_refl _ | (simp; done) | (simp; omega) | omega) _) | (refine below_step (Nat.le_refl _) ?_ (by assumption))))⟩
set_option maxRecDepth 100000 in
set_option maxHeartbeats 4000000 in
theorem l_toDrive (i d r l m s c e : Nat) (st : Int) (sp pi en : Nat) (w : World) : Calls Try.prog 25 #[drvV i d r l m s c e st sp pi en] w fun e' w' => e' = .returned (drvV i d r l m s c e st sp pi en) ∧ Below w.heap.size w w' := by
  go_enter Try.func25, Try.ntmps25
  go_wp2_with fail
  refine (l_toPlant i d r l m s c e _).mono ?_
  rintro e' w1 ⟨rfl, hb⟩
  obtain ⟨-, a8, a9, a10, a11⟩ := (drv_top w _ rfl i d r l m s c e st sp pi en 34).below (below_step (Nat.le_refl _) (below_alloc (Nat.le_refl _) (below_alloc (Nat.le_refl _) (Below.refl _ _) _) _) hb)
  obtain ⟨⟨b0, b1, b2, b3, b4, b5, b6, b7⟩, b8, b9, b10, b11⟩ := (drv_top _ (w.heap.size + 1) (by simp) 0 0 0 0 0 0 0 0 0 0 0 0 48).below (below_step (Nat.le_refl _) (below_alloc (Nat.le_refl _) (Below.refl _ _) _) hb)
  obtain ⟨⟨c0, c1, c2, c3, c4, c5, c6, c7⟩, c8, c9, c10, c11⟩ := (drv_top _ (w.heap.size + 1 + 1) (by simp) 0 0 0 0 0 0 0 0 0 0 0 0 48).below hb
  have z1 := frozen_new _ w1 (w.heap.size + 1) (by simp) _ _ (below_step (Nat.le_refl _) (below_alloc (Nat.le_refl _) (Below.refl _ _) _) hb)
  have z2 := frozen_new _ w1 (w.heap.size + 1 + 1) (by simp) _ _ hb
  have HB := Lib.hid (show Below w.heap.size w w1 from below_step (Nat.le_refl _) (below_alloc (Nat.le_refl _) (below_alloc (Nat.le_refl _) (below_alloc (Nat.le_refl _) (Below.refl _ _) _) _) _) hb)
  clear hb
  go_wp2
  refine bodyPost_ret (v := drvV i d r l m s c e st sp pi en) (by simp [results, Try.results25, go_sem, *]) rfl ⟨rfl, ?_⟩
  repeat (first | with_reducible exact HB.out | refine Below.setCell ?_ (by dsimp only; omega) _)
end Go.Proofs.Ytglfjanclopipaa
