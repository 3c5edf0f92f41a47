/- Walks: farms marked, and held against their marks. -/
import Derived.Test.YtpkkgfjjnggijaaDoorRP
namespace Go.Proofs.YtpkkgfjjnggijaaDoor
set_option linter.unusedSimpArgs false
set_option linter.unusedVariables false
open Go.RowKit Go.Fl Go.Tx Go.Lib

def marks2 (nx ny k : Nat) : List (List Nat) := [marks nx k, marks ny (k + nx)]
set_option maxHeartbeats 1000000 in
theorem l_markFarm (vx vy : Value) (x y : List Nat) (r d s : Nat) (k0 : Nat) (B : Nat) (w : World) (hp : Parts B w [vx, vy] [x, y]) (lx : x.length ≤ 1000) (ly : y.length ≤ 1000) (hk : k0 ≤ 1000) :
    Calls Tryd.prog 17 #[farmV vx vy r d s, .int .i64 (k0 : Int)] w fun e w' => e = .returned (.int .i64 ((k0 + x.length + y.length : Nat) : Int)) ∧ Parts B w' [vx, vy] (marks2 x.length y.length k0) ∧ Far [vx, vy] w w' := by
  have HP := Lib.hid hp
  have HL := Lib.hid (show x.length ≤ 1000 ∧ y.length ≤ 1000 ∧ k0 ≤ 1000 from ⟨lx, ly, hk⟩)
  have HD01 : Hid (Dis vx vy) := hp.2.1 vy (by simp)
  obtain ⟨q0, e0, hv0, -, -⟩ := RF_of_own hp.1 (by omega)
  obtain ⟨q1, e1, hv1, -, -⟩ := RF_of_own hp.2.2.1 (by omega)
  clear hp lx ly hk
  have HN : Hid (∀ u ∈ [vx, vy], u.ownBlock ≠ some w.heap.size) := fun u hu e => by
    have := (Parts.lt HP.out u hu _ e).2; omega
  subst hv0 hv1
  go_enter Tryd.func17, Tryd.ntmps17
  go_wp2_with fail
  obtain ⟨w1, hw1⟩ : ∃ w1, w1 = w.alloc (.cells #[.slice q0 x.length e0, .slice q1 y.length e1, .float .f32 r, .float .f32 d, .float .f32 s] 37) := ⟨_, rfl⟩
  have HB : Hid (Below w.heap.size w w1) := by rw [hw1]; exact (by repeat (first | exact Below.refl _ _ | assumption | refine below_drewN ?_ _ | refine below_alloc (Nat.le_refl _) ?_ _ | (refine Below.setCell ?_ (by first | exact Nat.le_refl _ | (simp; done) | (simp; omega) | omega) _) | (refine below_step (Nat.le_refl _) ?_ (by assumption))))
  have HA : Hid (FarmAt w1 w.heap.size (.slice q0 x.length e0) (.slice q1 y.length e1) r d s) := by rw [hw1]; exact farm_top w _ rfl _ _ _ _ _ _
  rw [← hw1]
  clear hw1
  have HP1 := Lib.hid (HP.out.below HB.out)
  have F1 : Hid (Far [.slice q0 x.length e0, .slice q1 y.length e1] w w1) := Far.of_below HB.out
  clear HB HP
  generalize w.heap.size = g at *
  refine (l_markFloat32S _ x k0 _ rfl B w1 HP1.out.1 (by have := HL.out; omega) (by have := HL.out; omega)).mono ?_
  rintro e' w2 ⟨rfl, h0, hg⟩
  have OM0 := Lib.hid h0
  have F2 := Lib.hid (F1.out.trans (Far.of_grown hg (by simp)))
  have O1 := Lib.hid (kept_dis HP1.out.2.2.1 hg HD01.out)
  have c1 := (Far.of_grown (us := [.slice q0 x.length e0, .slice q1 y.length e1]) hg (by simp)).cell HA.out.2.1 HN.out
  clear h0 hg HA F1 HP1
  go_wp2_with fail
  refine (l_markFloat32S _ y (k0 + x.length) _ rfl B w2 O1.out (by have := HL.out; omega) (by have := HL.out; omega)).mono ?_
  rintro e' w3 ⟨rfl, h1, hg⟩
  have OM1 := Lib.hid h1
  have F3 := Lib.hid (F2.out.trans (Far.of_grown hg (by simp)))
  replace OM0 := Lib.hid (kept_dis OM0.out hg HD01.out.symm)
  clear h1 hg F2 O1 c1
  go_wp2
  go_ret
  refine ⟨rfl, ⟨OM0.out, ?_, OM1.out, fun u hu => by simp at hu, trivial⟩, F3.out⟩
  intro u hu
  obtain rfl := List.mem_singleton.1 hu
  exact HD01.out
set_option maxHeartbeats 1000000 in
theorem l_heldFarm (vx vy : Value) (nx ny : Nat) (r d s : Nat) (k0 : Nat) (w : World) (h0 : RF w vx (marks nx k0)) (h1 : RF w vy (marks ny (k0 + nx))) (lx : nx ≤ 1000) (ly : ny ≤ 1000) (hk : k0 ≤ 1000) :
    Calls Tryd.prog 18 #[farmV vx vy r d s, .int .i64 (k0 : Int)] w fun e w' => e = .returned (.int .i64 ((k0 + nx + ny : Nat) : Int)) ∧ Below w.heap.size w w' := by
  have H0 := Lib.hid (fun W (hb : Below w.heap.size w W) => l_heldFloat32S vx nx k0 (k0 : Int) rfl W (RF_below h0 hb) (by omega) (by omega))
  have H1 := Lib.hid (fun W (hb : Below w.heap.size w W) => l_heldFloat32S vy ny (k0 + nx) ((k0 + nx : Nat) : Int) rfl W (RF_below h1 hb) (by omega) (by omega))
  clear h0 h1 lx ly hk
  have n0 : ¬ (((k0 + nx : Nat) : Int) < 0) := by omega
  have n1 : ¬ (((k0 + nx + ny : Nat) : Int) < 0) := by omega
  go_enter Tryd.func18, Tryd.ntmps18
  go_wp2_with fail
  refine (H0.out _ (by repeat (first | exact Below.refl _ _ | assumption | refine below_drewN ?_ _ | refine below_alloc (Nat.le_refl _) ?_ _ | (refine Below.setCell ?_ (by first | exact Nat.le_refl _ | (simp; done) | (simp; omega) | omega) _) | (refine below_step (Nat.le_refl _) ?_ (by assumption))))).mono ?_
  rintro e w1 ⟨rfl, m0, rfl⟩
  go_wp2_with fail
  refine (H1.out _ (by repeat (first | exact Below.refl _ _ | assumption | refine below_drewN ?_ _ | refine below_alloc (Nat.le_refl _) ?_ _ | (refine Below.setCell ?_ (by first | exact Nat.le_refl _ | (simp; done) | (simp; omega) | omega) _) | (refine below_step (Nat.le_refl _) ?_ (by assumption))))).mono ?_
  rintro e w1 ⟨rfl, m1, rfl⟩
  go_wp2
  go_ret
  exact ⟨rfl, (by repeat (first | exact Below.refl _ _ | assumption | refine below_drewN ?_ _ | refine below_alloc (Nat.le_refl _) ?_ _ | (refine Below.setCell ?_ (by first | exact Nat.le_refl _ | (simp; done) | (simp; omega) | omega) _) | (refine below_step (Nat.le_refl _) ?_ (by assumption))))⟩
end Go.Proofs.YtpkkgfjjnggijaaDoor
