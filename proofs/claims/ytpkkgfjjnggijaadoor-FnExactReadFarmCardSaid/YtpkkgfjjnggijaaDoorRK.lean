/- Walks: a profile read, the program's. -/
import Derived.Test.YtpkkgfjjnggijaaDoorRJ
import Derived.Deep.RegionHeld3
namespace Go.Proofs.YtpkkgfjjnggijaaDoor
set_option linter.unusedSimpArgs false
set_option linter.unusedVariables false
open Go.RowKit Go.Fl Go.Tx Go.Lib

theorem OV_three {B : Nat} {w : World} {u v0 v1 v2 : Value} (h : OV B w u [v0, v1, v2]) : ∃ g o cap, u = .slice (some ⟨g, o, none⟩) 3 cap ∧ B ≤ g ∧ w.cell? ⟨g, o, none⟩ = some v0 ∧ w.cell? ⟨g, o + 1, none⟩ = some v1 ∧ w.cell? ⟨g, o + 2, none⟩ = some v2 := by
  obtain ⟨p, cap, rfl, hm, hc⟩ := Sl_of_own h (by simp)
  obtain ⟨g, o, rfl, hcell⟩ := hc.resolve_left (by simp)
  exact ⟨g, o, cap, rfl, (World.ownsRow.lt h g rfl).1, hcell 0 _ rfl, hcell 1 _ rfl, hcell 2 _ rfl⟩
theorem Parts_drewR {B : Nat} {w : World} {vs : List Value} {xs : List (List Nat)} (h : Parts B w vs xs) : Parts B w.drew vs xs := h.below (Below_drewR (Below.refl _ _))
set_option maxRecDepth 100000 in
set_option maxHeartbeats 4000000 in
theorem i_ReadProfile (t : ByteArray) (hs : t.size ≤ 1048576) (w : World) (hgl : RG w) : Calls Tryd.prog 10 #[.string t] w (ProfRd t w) := by
  have HN := Lib.hid (fun W hg => i_partsOf 58 t ⟨#[58]⟩ rfl hs W hg)
  have HGL := Lib.hid hgl
  clear hs hgl
  go_enter Tryd.func10, Tryd.ntmps10
  go_wp2_with fail
  obtain ⟨w0, hw0⟩ : ∃ w0, w0 = w.alloc (.cells #[nilS, nilS, nilS] 31) := ⟨_, rfl⟩
  have HB : Hid (Below w.heap.size w w0) := by rw [hw0]; exact (by repeat (first | exact Below.refl _ _ | assumption | refine below_drewN ?_ _ | refine below_alloc (Nat.le_refl _) ?_ _ | (refine Below.setCell ?_ (by first | exact Nat.le_refl _ | (simp; done) | (simp; omega) | omega) _) | (refine below_step (Nat.le_refl _) ?_ (by assumption))))
  have HA : Hid (ProfAt w0 w.heap.size nilS nilS nilS) := by rw [hw0]; exact prof_top w _ rfl _ _ _ _
  have HS : Hid (∀ j, w0.frozen? ⟨w.heap.size, j, none⟩ = false) := by rw [hw0]; exact softR w _ rfl _ _
  rw [← hw0]
  clear hw0
  refine (HN.out w0 (HGL.out.below HB.out)).mono ?_
  rintro e' w1 ⟨u, rfl, hu, hb⟩
  obtain ⟨g, hg⟩ : ∃ g, g = w.heap.size := ⟨_, rfl⟩
  have HBZ := Lib.hid (below_step (Nat.le_refl _) HB.out hb)
  have HA1 := Lib.hid (HA.out.below hb)
  have HS1 : Hid (∀ j, w1.frozen? ⟨g, j, none⟩ = false) := fun j => (hb.frozen (p := ⟨g, j, none⟩) (show g < _ from by rw [hg]; exact block_lt_of_cell HA.out.1)).trans (by rw [hg]; exact HS.out j)
  have hg0 : g + 1 ≤ w0.heap.size := by rw [hg]; exact block_lt_of_cell HA.out.1
  rw [← hg] at HA1
  rw [← hg]
  have HG : Hid (w.heap.size ≤ g) := by show _ ≤ _; omega
  clear hg hb HN HB HA HS HGL
  cases hth : threeOf 58 t with
  | none =>
    have HNO := Lib.hid (profOf_none hth)
    have hs := HS1.out
    obtain ⟨c0, c1, c2⟩ := HA1.out
    clear hu hg0 hth HA1 HS1
    dsimp only [Option.isSome_none]
    go_wp2
    exact bodyPost_ret (v := .tuple #[profV nilS nilS nilS, .bool false]) (by simp [results, Tryd.results10, go_sem, *]) rfl (ProfRd.no HNO.out (by repeat (first | exact HBZ.out | refine Below.setCell ?_ HG.out _ | refine below_drewN ?_ _)))
  | some xs =>
    obtain ⟨vs, hov, hpa⟩ := hu xs hth
    have hlen := threeOf_len hth
    have hfew := threeOf_few hth
    have hvl := hpa.length
    match xs, hlen with
    | [x0, x1, x2], _ =>
      match vs, hvl with
      | [v0, v1, v2], _ =>
        have HPO := Lib.hid (profOf_three hth)
        have R0 := RF_of_own hpa.1 (by have := hfew x0 (by simp); omega)
        have R1 := RF_of_own hpa.2.2.1 (by have := hfew x1 (by simp); omega)
        have R2 := RF_of_own hpa.2.2.2.2.1 (by have := hfew x2 (by simp); omega)
        have HPA := Lib.hid (Parts_le hg0 hpa)
        obtain ⟨q, o, cap, rfl, hqb, k0, k1, k2⟩ := OV_three hov
        have HQG : Hid (∀ i j, (⟨g, i, none⟩ : Addr) ≠ ⟨q, j, none⟩) := fun i j e => by cases e; omega
        have HCP := Lib.hid (fun W (hb : Below w1.heap.size w1 W) => (i_checkedProfile v0 v1 v2 x0 x1 x2 W (RF_below R0 hb) (RF_below R1 hb) (RF_below R2 hb)).mono fun e w' (h : GiveP (profOk x0 x1 x2) v0 v1 v2 W e w') => (show e = .returned (.tuple #[if profOk x0 x1 x2 then profV v0 v1 v2 else profV nilS nilS nilS, .bool (profOk x0 x1 x2)]) ∧ Below W.heap.size W w' from h))
        obtain ⟨q0, e0, rfl, -, -⟩ := R0
        obtain ⟨q1, e1, rfl, -, -⟩ := R1
        obtain ⟨q2, e2, rfl, -, -⟩ := R2
        have HX : Hid (∀ W, Below w1.heap.size w1 W → (W.cell? ⟨q, o, none⟩ = some (.slice q0 x0.length e0) ∧ W.cell? ⟨q, o + 1, none⟩ = some (.slice q1 x1.length e1) ∧ W.cell? ⟨q, o + 2, none⟩ = some (.slice q2 x2.length e2)) ∧ (∀ j, W.frozen? ⟨g, j, none⟩ = false) ∧ (W.cell? ⟨g, 0, none⟩ = some nilS ∧ W.cell? ⟨g, 1, none⟩ = some nilS ∧ W.cell? ⟨g, 2, none⟩ = some nilS) ∧ Below w.heap.size w W) :=
          fun W hb => ⟨⟨hcell_below k0 hb, hcell_below k1 hb, hcell_below k2 hb⟩, fun j => (hb.frozen (p := ⟨g, j, none⟩) (show g < _ from block_lt_of_cell HA1.out.1)).trans (HS1.out j), HA1.out.below hb, below_step (Nat.le_refl _) HBZ.out hb⟩
        clear hu hth hov hpa hlen hfew hvl hqb hg0
        dsimp only [Option.isSome_some]
        cases hok : profOk x0 x1 x2
        · have HNO : Hid (profOf t = none) := by show _ = _; rw [HPO.out, hok]; rfl
          rw [hok] at HCP
          simp only [reduceIte, Bool.false_eq_true] at HCP
          clear hok HPO HPA
          go_wp2_with fail
          go_region_held3 (fun w' => w'.cell? ⟨q, o, none⟩ = some (.slice q0 x0.length e0) ∧ w'.cell? ⟨q, o + 1, none⟩ = some (.slice q1 x1.length e1) ∧ w'.cell? ⟨q, o + 2, none⟩ = some (.slice q2 x2.length e2))
            (first
              | ((refine (HX.out _ ?_).1; (repeat (first | with_reducible exact Below.refl _ _ | with_reducible exact hb6 | with_reducible refine Below_drewR ?_)); done))
              | ((refine ⟨?_, ?_, ?_⟩ <;> (repeat (first | with_reducible exact m0 | with_reducible exact m1 | with_reducible exact m2 | with_reducible refine (World.cell?_setCell_other _ _ _ _ (HQG.out _ _)).trans ?_ | with_reducible refine cell_drewR ?_)))))
            ((go_at_call 25; with_reducible refine (HCP.out _ ?_).mono ?_; (focus (repeat (first | with_reducible exact Below.refl _ _ | with_reducible refine Below_drewR ?_))); rintro e' w5 ⟨rfl, hb5⟩; have hb6 := below_step (Nat.le_refl _) (Below_drewR (Below.refl w1.heap.size w1)) hb5; obtain ⟨⟨m0, m1, m2⟩, hs5, ⟨c0, c1, c2⟩, HB5⟩ := HX.out _ hb6))
          go_wp2
          exact bodyPost_ret (v := .tuple #[profV nilS nilS nilS, .bool false]) (by simp [results, Tryd.results10, go_sem, *]) rfl (ProfRd.no HNO.out (by repeat (first | exact HB5 | refine Below.setCell ?_ HG.out _ | refine Below_drewR ?_ | refine below_drewN ?_ _)))
        · have HYE : Hid (profOf t = some (x0, x1, x2)) := by show _ = _; rw [HPO.out, hok]; rfl
          rw [hok] at HCP
          simp only [reduceIte] at HCP
          clear hok HPO
          go_wp2_with fail
          go_region_held3 (fun w' => w'.cell? ⟨q, o, none⟩ = some (.slice q0 x0.length e0) ∧ w'.cell? ⟨q, o + 1, none⟩ = some (.slice q1 x1.length e1) ∧ w'.cell? ⟨q, o + 2, none⟩ = some (.slice q2 x2.length e2))
            (first
              | ((refine (HX.out _ ?_).1; (repeat (first | with_reducible exact Below.refl _ _ | with_reducible exact hb6 | with_reducible refine Below_drewR ?_)); done))
              | ((refine ⟨?_, ?_, ?_⟩ <;> (repeat (first | with_reducible exact m0 | with_reducible exact m1 | with_reducible exact m2 | with_reducible refine (World.cell?_setCell_other _ _ _ _ (HQG.out _ _)).trans ?_ | with_reducible refine cell_drewR ?_)))))
            ((go_at_call 25; with_reducible refine (HCP.out _ ?_).mono ?_; (focus (repeat (first | with_reducible exact Below.refl _ _ | with_reducible refine Below_drewR ?_))); rintro e' w5 ⟨rfl, hb5⟩; have hb6 := below_step (Nat.le_refl _) (Below_drewR (Below.refl w1.heap.size w1)) hb5; obtain ⟨⟨m0, m1, m2⟩, hs5, ⟨c0, c1, c2⟩, HB5⟩ := HX.out _ hb6))
          have HP5 := Lib.hid (HPA.out.below hb6)
          go_wp2
          exact bodyPost_ret (v := .tuple #[profV (.slice q0 x0.length e0) (.slice q1 x1.length e1) (.slice q2 x2.length e2), .bool true]) (by simp [results, Tryd.results10, go_sem, *]) rfl (ProfRd.ok HYE.out (Parts_le (Nat.le_succ_of_le HG.out) (by repeat (first | exact HP5.out | refine Parts_set (Nat.lt_succ_self g) _ _ ?_ | refine Parts_drewR ?_))) (by repeat (first | exact HB5 | refine Below.setCell ?_ HG.out _ | refine Below_drewR ?_ | refine below_drewN ?_ _)))
end Go.Proofs.YtpkkgfjjnggijaaDoor
