/- Walks: a farm read, the program's. -/
import Derived.Test.YtpkkgfjjnggijaaDoorRO
namespace Go.Proofs.YtpkkgfjjnggijaaDoor
set_option linter.unusedSimpArgs false
set_option linter.unusedVariables false
open Go.RowKit Go.Fl Go.Tx Go.Lib

set_option maxRecDepth 100000 in
set_option maxHeartbeats 4000000 in
theorem i_ReadFarm (t : ByteArray) (hs : t.size ≤ 1048576) (w : World) (hgl : RG w) : Calls Tryd.prog 15 #[.string t] w (FarmRd t w) := by
  have HN := Lib.hid (fun W hg => i_partsOf 59 t ⟨#[59]⟩ rfl hs W hg)
  have HGL := Lib.hid hgl
  clear hs hgl
  go_enter Tryd.func15, Tryd.ntmps15
  go_wp2_with fail
  obtain ⟨w0, hw0⟩ : ∃ w0, w0 = w.alloc (.cells #[nilS, nilS, .float .f32 0, .float .f32 0, .float .f32 0] 37) := ⟨_, rfl⟩
  have HB : Hid (Below w.heap.size w w0) := by rw [hw0]; exact (by repeat (first | exact Below.refl _ _ | assumption | refine below_drewN ?_ _ | refine below_alloc (Nat.le_refl _) ?_ _ | (refine Below.setCell ?_ (by first | exact Nat.le_refl _ | (simp; done) | (simp; omega) | omega) _) | (refine below_step (Nat.le_refl _) ?_ (by assumption))))
  have HA : Hid (FarmAt w0 w.heap.size nilS nilS 0 0 0) := by rw [hw0]; exact farm_top w _ rfl _ _ _ _ _ _
  have HS : Hid (∀ j, w0.frozen? ⟨w.heap.size, j, none⟩ = false) := by rw [hw0]; exact softR w _ rfl _ _
  rw [← hw0]
  clear hw0
  refine (HN.out w0 (HGL.out.below HB.out)).mono ?_
  rintro e' w1 ⟨u, rfl, hu, hb⟩
  obtain ⟨g, hg⟩ : ∃ g, g = w.heap.size := ⟨_, rfl⟩
  have HBZ := Lib.hid (below_step (Nat.le_refl _) HB.out hb)
  have HA1 := Lib.hid (HA.out.below hb)
  have HS1 : Hid (∀ j, w1.frozen? ⟨g, j, none⟩ = false) := fun j => (hb.frozen (p := ⟨g, j, none⟩) (show g < _ from by rw [hg]; exact block_lt_of_cell HA.out.1)).trans (by rw [hg]; exact HS.out j)
  have hg0 : g + 1 ≤ w0.heap.size := by rw [hg]; exact block_lt_of_cell HA.out.1
  rw [← hg] at HA1
  rw [← hg]
  have HG : Hid (w.heap.size ≤ g) := by show _ ≤ _; omega
  clear hg hb HN HB HA HS HGL
  cases hth : threeOf 59 t with
  | none =>
    have HNO := Lib.hid (farmOf_none hth)
    have hs := HS1.out
    obtain ⟨c0, c1, c2, c3, c4⟩ := HA1.out
    clear hu hg0 hth HA1 HS1
    dsimp only [Option.isSome_none]
    go_wp2
    exact bodyPost_ret (v := .tuple #[farmV nilS nilS 0 0 0, .bool false]) (by simp [results, Tryd.results15, go_sem, *]) rfl (FarmRd.no HNO.out (by repeat (first | with_reducible exact HBZ.out | with_reducible refine Below.setCell ?_ HG.out _ | with_reducible refine below_drewN ?_ _)))
  | some xs =>
    obtain ⟨vs, hov, hpa⟩ := hu xs hth
    have hlen := threeOf_len hth
    have hfew := threeOf_few hth
    have hvl := hpa.length
    match xs, hlen with
    | [x0, x1, x2], _ =>
      match vs, hvl with
      | [v0, v1, v2], _ =>
        have R0 := RF_of_own hpa.1 (by have := hfew x0 (by simp); omega)
        have R1 := RF_of_own hpa.2.2.1 (by have := hfew x1 (by simp); omega)
        have R2 := RF_of_own hpa.2.2.2.2.1 (by have := hfew x2 (by simp); omega)
        have HPA : Hid (Parts (g + 1) w1 [v0, v1] [x0, x1]) := by
          have z := Parts_le hg0 hpa
          exact ⟨z.1, fun u hu => z.2.1 u (List.mem_cons.2 (.inl (List.mem_singleton.1 hu))), z.2.2.1, fun u hu => by simp at hu, trivial⟩
        obtain ⟨q, o, cap, rfl, hqb, k0, k1, k2⟩ := OV_three hov
        by_cases hz : x2.length = 3
        case neg =>
          have HNO := Lib.hid (farmOf_len hth hz)
          have hne : ((x2.length : Int) != 3) = true := by simp; omega
          obtain ⟨q2, e2, rfl, -, -⟩ := R2
          have hs := HS1.out
          obtain ⟨c0, c1, c2, c3, c4⟩ := HA1.out
          clear hz hu hth hov hpa hlen hfew hvl hqb hg0 HA1 HS1 R0 R1 HPA k0 k1
          dsimp only [Option.isSome_some]
          go_wp2
          exact bodyPost_ret (v := .tuple #[farmV nilS nilS 0 0 0, .bool false]) (by simp [results, Tryd.results15, go_sem, *]) rfl (FarmRd.no HNO.out (by repeat (first | with_reducible exact HBZ.out | with_reducible exact HB5 | with_reducible refine Below.setCell ?_ HG.out _ | with_reducible refine Below_drewR ?_ | with_reducible refine below_drewN ?_ _)))
        case pos =>
          match x2, hz with
          | [r, d, s], _ =>
            have HPO := Lib.hid (farmOf_three hth)
            obtain ⟨qz, oz, e2, rfl, z0, z1, z2⟩ := RF_three R2
            have HQG : Hid (∀ i j, (⟨g, i, none⟩ : Addr) ≠ ⟨q, j, none⟩) := fun i j e => by cases e; omega
            have HZG : Hid (∀ i j, (⟨g, i, none⟩ : Addr) ≠ ⟨qz, j, none⟩) := fun i j e => by
              have := (World.ownsRow.lt hpa.2.2.2.2.1 qz rfl).1
              cases e; omega
            have HCP := Lib.hid (fun W (hb : Below w1.heap.size w1 W) => (i_checkedFarm v0 v1 x0 x1 r d s W (RF_below R0 hb) (RF_below R1 hb)).mono fun e w' (h : GiveF (farmOk x0 x1 r d s) v0 v1 r d s W e w') => (show e = .returned (.tuple #[if farmOk x0 x1 r d s then farmV v0 v1 r d s else farmV nilS nilS 0 0 0, .bool (farmOk x0 x1 r d s)]) ∧ Below W.heap.size W w' from h))
            obtain ⟨q0, e0, rfl, -, -⟩ := R0
            obtain ⟨q1, e1, rfl, -, -⟩ := R1
            have HX : Hid (∀ W, Below w1.heap.size w1 W → ((W.cell? ⟨q, o, none⟩ = some (.slice q0 x0.length e0) ∧ W.cell? ⟨q, o + 1, none⟩ = some (.slice q1 x1.length e1) ∧ W.cell? ⟨q, o + 2, none⟩ = some (.slice (some ⟨qz, oz, none⟩) 3 e2)) ∧ (W.cell? ⟨qz, oz, none⟩ = some (.float .f32 r) ∧ W.cell? ⟨qz, oz + 1, none⟩ = some (.float .f32 d) ∧ W.cell? ⟨qz, oz + 2, none⟩ = some (.float .f32 s))) ∧ (∀ j, W.frozen? ⟨g, j, none⟩ = false) ∧ (W.cell? ⟨g, 0, none⟩ = some nilS ∧ W.cell? ⟨g, 1, none⟩ = some nilS ∧ W.cell? ⟨g, 2, none⟩ = some (.float .f32 0) ∧ W.cell? ⟨g, 3, none⟩ = some (.float .f32 0) ∧ W.cell? ⟨g, 4, none⟩ = some (.float .f32 0)) ∧ Below w.heap.size w W) :=
              fun W hb => ⟨⟨⟨hcell_below k0 hb, hcell_below k1 hb, hcell_below k2 hb⟩, hcell_below z0 hb, hcell_below z1 hb, hcell_below z2 hb⟩, fun j => (hb.frozen (p := ⟨g, j, none⟩) (show g < _ from block_lt_of_cell HA1.out.1)).trans (HS1.out j), HA1.out.below hb, below_step (Nat.le_refl _) HBZ.out hb⟩
            have hlen3 : (([r, d, s] : List Nat).length : Int) = 3 := rfl
            clear hu hth hov hpa hlen hfew hvl hqb hg0
            dsimp only [Option.isSome_some]
            cases hok : farmOk x0 x1 r d s
            · have HNO : Hid (farmOf t = none) := by show _ = _; rw [HPO.out, hok]; rfl
              rw [hok] at HCP
              simp only [reduceIte, Bool.false_eq_true] at HCP
              clear hok HPO HPA
              go_wp2_with fail
              go_region_held3 (fun w' => (w'.cell? ⟨q, o, none⟩ = some (.slice q0 x0.length e0) ∧ w'.cell? ⟨q, o + 1, none⟩ = some (.slice q1 x1.length e1) ∧ w'.cell? ⟨q, o + 2, none⟩ = some (.slice (some ⟨qz, oz, none⟩) 3 e2)) ∧ (w'.cell? ⟨qz, oz, none⟩ = some (.float .f32 r) ∧ w'.cell? ⟨qz, oz + 1, none⟩ = some (.float .f32 d) ∧ w'.cell? ⟨qz, oz + 2, none⟩ = some (.float .f32 s)))
                (first
                  | ((refine (HX.out _ ?_).1; (repeat (first | with_reducible exact Below.refl _ _ | with_reducible exact hb6 | with_reducible refine Below_drewR ?_)); done))
                  | ((refine ⟨⟨?_, ?_, ?_⟩, ⟨?_, ?_, ?_⟩⟩ <;> (repeat (first | with_reducible exact m0 | with_reducible exact m1 | with_reducible exact m2 | with_reducible exact y0 | with_reducible exact y1 | with_reducible exact y2 | with_reducible refine (World.cell?_setCell_other _ _ _ _ (HQG.out _ _)).trans ?_ | with_reducible refine (World.cell?_setCell_other _ _ _ _ (HZG.out _ _)).trans ?_ | with_reducible refine cell_drewR ?_)))))
                ((go_at_call 30; with_reducible refine (HCP.out _ ?_).mono ?_; (focus (repeat (first | with_reducible exact Below.refl _ _ | with_reducible refine Below_drewR ?_))); rintro e' w5 ⟨rfl, hb5⟩; have hb6 := below_step (Nat.le_refl _) (Below_drewR (Below.refl w1.heap.size w1)) hb5; obtain ⟨⟨⟨m0, m1, m2⟩, y0, y1, y2⟩, hs5, ⟨c0, c1, c2, c3, c4⟩, HB5⟩ := HX.out _ hb6))
              go_wp2
              exact bodyPost_ret (v := .tuple #[farmV nilS nilS 0 0 0, .bool false]) (by simp [results, Tryd.results15, go_sem, *]) rfl (FarmRd.no HNO.out (by repeat (first | with_reducible exact HBZ.out | with_reducible exact HB5 | with_reducible refine Below.setCell ?_ HG.out _ | with_reducible refine Below_drewR ?_ | with_reducible refine below_drewN ?_ _)))
            · have HYE : Hid (farmOf t = some (x0, x1, r, d, s)) := by show _ = _; rw [HPO.out, hok]; rfl
              rw [hok] at HCP
              simp only [reduceIte] at HCP
              clear hok HPO
              go_wp2_with fail
              go_region_held3 (fun w' => (w'.cell? ⟨q, o, none⟩ = some (.slice q0 x0.length e0) ∧ w'.cell? ⟨q, o + 1, none⟩ = some (.slice q1 x1.length e1) ∧ w'.cell? ⟨q, o + 2, none⟩ = some (.slice (some ⟨qz, oz, none⟩) 3 e2)) ∧ (w'.cell? ⟨qz, oz, none⟩ = some (.float .f32 r) ∧ w'.cell? ⟨qz, oz + 1, none⟩ = some (.float .f32 d) ∧ w'.cell? ⟨qz, oz + 2, none⟩ = some (.float .f32 s)))
                (first
                  | ((refine (HX.out _ ?_).1; (repeat (first | with_reducible exact Below.refl _ _ | with_reducible exact hb6 | with_reducible refine Below_drewR ?_)); done))
                  | ((refine ⟨⟨?_, ?_, ?_⟩, ⟨?_, ?_, ?_⟩⟩ <;> (repeat (first | with_reducible exact m0 | with_reducible exact m1 | with_reducible exact m2 | with_reducible exact y0 | with_reducible exact y1 | with_reducible exact y2 | with_reducible refine (World.cell?_setCell_other _ _ _ _ (HQG.out _ _)).trans ?_ | with_reducible refine (World.cell?_setCell_other _ _ _ _ (HZG.out _ _)).trans ?_ | with_reducible refine cell_drewR ?_)))))
                ((go_at_call 30; with_reducible refine (HCP.out _ ?_).mono ?_; (focus (repeat (first | with_reducible exact Below.refl _ _ | with_reducible refine Below_drewR ?_))); rintro e' w5 ⟨rfl, hb5⟩; have hb6 := below_step (Nat.le_refl _) (Below_drewR (Below.refl w1.heap.size w1)) hb5; obtain ⟨⟨⟨m0, m1, m2⟩, y0, y1, y2⟩, hs5, ⟨c0, c1, c2, c3, c4⟩, HB5⟩ := HX.out _ hb6))
              have HP5 := Lib.hid (HPA.out.below hb6)
              go_wp2
              exact bodyPost_ret (v := .tuple #[farmV (.slice q0 x0.length e0) (.slice q1 x1.length e1) r d s, .bool true]) (by simp [results, Tryd.results15, go_sem, *]) rfl (FarmRd.ok HYE.out (Parts_le (Nat.le_succ_of_le HG.out) (by repeat (first | with_reducible exact HP5.out | with_reducible refine Parts_set (Nat.lt_succ_self g) _ _ ?_ | with_reducible refine Parts_drewR ?_))) (by repeat (first | with_reducible exact HB5 | with_reducible refine Below.setCell ?_ HG.out _ | with_reducible refine Below_drewR ?_ | with_reducible refine below_drewN ?_ _)))
end Go.Proofs.YtpkkgfjjnggijaaDoor
