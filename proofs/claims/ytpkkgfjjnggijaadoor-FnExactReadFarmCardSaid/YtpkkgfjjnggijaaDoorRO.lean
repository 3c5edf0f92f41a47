/- Walks: a farm read, the reference's. -/
import Derived.Test.YtpkkgfjjnggijaaDoorRM
namespace Go.Proofs.YtpkkgfjjnggijaaDoor
set_option linter.unusedSimpArgs false
set_option linter.unusedVariables false
open Go.RowKit Go.Fl Go.Tx Go.Lib

set_option maxRecDepth 100000 in
set_option maxHeartbeats 2000000 in
theorem s_l08ReadFarm (t : ByteArray) (hs : t.size ≤ 1048576) (w : World) : Calls Tryd.prog 29 #[.string t] w (FarmRd t w) := by
  have HC := Lib.hid (fun W => s_l01Cut t 59 59 rfl W hs)
  have HSZ := Lib.hid (fun p (hp : p ∈ cutAll 59 t) => Nat.le_trans (cutAll_size 59 t hp) hs)
  have HTS := Lib.hid hs
  clear hs
  go_enter Tryd.func29, Tryd.ntmps29
  go_wp2_with fail
  obtain ⟨w0, hw0⟩ : ∃ w0, w0 = w.alloc (.cells #[nilS, nilS, .float .f32 0, .float .f32 0, .float .f32 0] 37) := ⟨_, rfl⟩
  have HB : Hid (Below w.heap.size w w0) := by rw [hw0]; exact (by repeat (first | exact Below.refl _ _ | assumption | refine below_drewN ?_ _ | refine below_alloc (Nat.le_refl _) ?_ _ | (refine Below.setCell ?_ (by first | exact Nat.le_refl _ | (simp; done) | (simp; omega) | omega) _) | (refine below_step (Nat.le_refl _) ?_ (by assumption))))
  have HA : Hid (FarmAt w0 w.heap.size nilS nilS 0 0 0) := by rw [hw0]; exact farm_top w _ rfl _ _ _ _ _ _
  have HS : Hid (∀ j, w0.frozen? ⟨w.heap.size, j, none⟩ = false) := by rw [hw0]; exact softR w _ rfl _ _
  rw [← hw0]
  clear hw0
  refine (HC.out w0).mono ?_
  rintro e' w1 ⟨v, rfl, hO, hb⟩
  have hR := RS_of_own hO (by have := (cutAll_len 59 t).2; have := HTS.out; omega)
  obtain ⟨g, hg⟩ : ∃ g, g = w.heap.size := ⟨_, rfl⟩
  have HB1 := Lib.hid (below_step (Nat.le_refl _) HB.out hb)
  have HA1 := Lib.hid (HA.out.below hb)
  have HS1 : Hid (∀ j, w1.frozen? ⟨g, j, none⟩ = false) := fun j => (hb.frozen (p := ⟨g, j, none⟩) (show g < _ from by rw [hg]; exact block_lt_of_cell HA.out.1)).trans (by rw [hg]; exact HS.out j)
  rw [← hg] at HA1
  rw [← hg]
  have HG : Hid (w.heap.size ≤ g) := by show _ ≤ _; omega
  clear hg hb hO HC HB HA HS
  by_cases hl : (cutAll 59 t).length = 3
  case neg =>
    have HNO := Lib.hid (farmOf_none (threeOf_len3 hl))
    obtain ⟨p, cap, rfl, -, -⟩ := hR
    have hne : (((cutAll 59 t).length : Int) != 3) = true := by simp; omega
    have HBZ := HB1
    have hs := HS1.out
    obtain ⟨c0, c1, c2, c3, c4⟩ := HA1.out
    clear hl HSZ HTS HA1 HS1
    go_wp2
    exact bodyPost_ret (v := .tuple #[farmV nilS nilS 0 0 0, .bool false]) (by simp [results, Tryd.results29, go_sem, *]) rfl (FarmRd.no HNO.out (by repeat (first | with_reducible exact HBZ.out | with_reducible refine Below.setCell ?_ HG.out _ | with_reducible refine below_drewN ?_ _)))
  case pos =>
    obtain ⟨p0, p1, p2, hcut⟩ : ∃ p0 p1 p2, cutAll 59 t = [p0, p1, p2] := by
      match cutAll 59 t, hl with
      | [a, b, c], _ => exact ⟨a, b, c, rfl⟩
    have HZ0 := HSZ.out p0 (by rw [hcut]; simp)
    have HZ1 := HSZ.out p1 (by rw [hcut]; simp)
    have HZ2 := HSZ.out p2 (by rw [hcut]; simp)
    rw [hcut] at hR
    have H3 := Lib.hid (threeOf_mk hcut)
    obtain ⟨q, o, cap, rfl, k0, k1, k2⟩ := RS_three hR
    have HN0 := Lib.hid (fun W => s_l01NRead p0 HZ0 W)
    have HN1 := Lib.hid (fun W => s_l01NRead p1 HZ1 W)
    have HN2 := Lib.hid (fun W => s_l01NRead p2 HZ2 W)
    have HK1 := Lib.hid k1
    have HK2 := Lib.hid k2
    clear hl hcut hR HSZ HTS HZ0 HZ1 HZ2 k1 k2
    go_wp2_with fail
    refine (HN0.out _).mono ?_
    rintro e' w2 ⟨u0, rfl, o0, hb⟩
    have HB2 := Lib.hid (below_step (Nat.le_refl _) HB1.out hb)
    have HA2 := Lib.hid (HA1.out.below hb)
    have HS2 : Hid (∀ j, w2.frozen? ⟨g, j, none⟩ = false) := fun j => (hb.frozen (p := ⟨g, j, none⟩) (show g < _ from block_lt_of_cell HA1.out.1)).trans (HS1.out j)
    have O0 := Lib.hid o0
    have k1 := hcell_below HK1.out hb
    have HK3 := Lib.hid (hcell_below HK2.out hb)
    have hb1 := Lib.hid hb.size
    have HBB := Lib.hid (show g < w1.heap.size from block_lt_of_cell HA1.out.1)
    clear o0 hb HN0 HB1 HA1 HS1 HK1 HK2 k0
    go_wp2_with fail
    refine (HN1.out _).mono ?_
    rintro e' w3 ⟨u1, rfl, o1, hb⟩
    have HB3 := Lib.hid (below_step (Nat.le_refl _) HB2.out hb)
    have HA3 := Lib.hid (HA2.out.below hb)
    have HS3 : Hid (∀ j, w3.frozen? ⟨g, j, none⟩ = false) := fun j => (hb.frozen (p := ⟨g, j, none⟩) (show g < _ from block_lt_of_cell HA2.out.1)).trans (HS2.out j)
    have O1 := Lib.hid o1
    have D01 := Lib.hid (dis_of O0.out (Nat.le_refl _) o1)
    replace O0 := Lib.hid (OF_belowN O0.out hb)
    have k2 := hcell_below HK3.out hb
    have hb2 := Lib.hid hb.size
    clear o1 hb HN1 HB2 HA2 HS2 HK3 k1
    go_wp2_with fail
    refine (HN2.out _).mono ?_
    rintro e' w4 ⟨u2, rfl, o2, hb⟩
    have HBZ := Lib.hid (below_step (Nat.le_refl _) HB3.out hb)
    have HA4 := Lib.hid (HA3.out.below hb)
    have HS4 : Hid (∀ j, w4.frozen? ⟨g, j, none⟩ = false) := fun j => (hb.frozen (p := ⟨g, j, none⟩) (show g < _ from block_lt_of_cell HA3.out.1)).trans (HS3.out j)
    have O2 := Lib.hid o2
    have D02 := Lib.hid (dis_of O0.out (Nat.le_refl _) o2)
    have D12 := Lib.hid (dis_of O1.out (Nat.le_refl _) o2)
    replace O0 := Lib.hid (OF_belowN O0.out hb)
    replace O1 := Lib.hid (OF_belowN O1.out hb)
    clear o2 hb HN2 HA3 HS3 k2
    have hs := HS4.out
    obtain ⟨c0, c1, c2, c3, c4⟩ := HA4.out
    by_cases hall : ((numsOf p0).isSome && (numsOf p1).isSome && (numsOf p2).isSome) = true
    case neg =>
      have HNO := Lib.hid (farmOf_none (H3.out.trans (numsAll_no (by simpa using hall))))
      clear H3 O0 O1 O2 D01 D02 D12 HA4 HS4 HB3 hb1 hb2 HBB
      generalize (numsOf p0).isSome = b0 at *
      generalize (numsOf p1).isSome = b1 at *
      generalize (numsOf p2).isSome = b2 at *
      cases b0
      · clear hall
        go_wp2
        exact bodyPost_ret (v := .tuple #[farmV nilS nilS 0 0 0, .bool false]) (by simp [results, Tryd.results29, go_sem, *]) rfl (FarmRd.no HNO.out (by repeat (first | with_reducible exact HBZ.out | with_reducible refine Below.setCell ?_ HG.out _ | with_reducible refine below_drewN ?_ _)))
      cases b1
      · clear hall
        go_wp2
        exact bodyPost_ret (v := .tuple #[farmV nilS nilS 0 0 0, .bool false]) (by simp [results, Tryd.results29, go_sem, *]) rfl (FarmRd.no HNO.out (by repeat (first | with_reducible exact HBZ.out | with_reducible refine Below.setCell ?_ HG.out _ | with_reducible refine below_drewN ?_ _)))
      cases b2
      · clear hall
        go_wp2
        exact bodyPost_ret (v := .tuple #[farmV nilS nilS 0 0 0, .bool false]) (by simp [results, Tryd.results29, go_sem, *]) rfl (FarmRd.no HNO.out (by repeat (first | with_reducible exact HBZ.out | with_reducible refine Below.setCell ?_ HG.out _ | with_reducible refine below_drewN ?_ _)))
      · exact absurd rfl hall
    case pos =>
      simp only [Bool.and_eq_true, Option.isSome_iff_exists] at hall
      obtain ⟨⟨⟨x0, h0⟩, x1, h1⟩, x2, h2⟩ := hall
      rw [h0] at O0
      rw [h1] at O1
      rw [h2] at O2
      rw [h0, h1, h2]
      replace O0 := Lib.hid (show OF _ w4 u0 x0 from O0.out)
      replace O1 := Lib.hid (show OF _ w4 u1 x1 from O1.out)
      replace O2 := Lib.hid (show OF _ w4 u2 x2 from O2.out)
      have R0 := RF_of_own O0.out (by have := numsOf_len h0; omega)
      have R1 := RF_of_own O1.out (by have := numsOf_len h1; omega)
      have R2 := RF_of_own O2.out (by have := numsOf_len h2; omega)
      have HTH := Lib.hid (H3.out.trans (numsAll_yes h0 h1 h2))
      clear h0 h1 h2 H3
      dsimp only [Option.isSome_some]
      by_cases hz : x2.length = 3
      case neg =>
        have HNO := Lib.hid (farmOf_len HTH.out hz)
        have hne : ((x2.length : Int) != 3) = true := by simp; omega
        obtain ⟨q2, e2, rfl, -, -⟩ := R2
        clear hz HTH O0 O1 O2 D01 D02 D12 HB3 hb1 hb2 HBB HA4 HS4 R0 R1
        go_wp2
        exact bodyPost_ret (v := .tuple #[farmV nilS nilS 0 0 0, .bool false]) (by simp [results, Tryd.results29, go_sem, *]) rfl (FarmRd.no HNO.out (by repeat (first | with_reducible exact HBZ.out | with_reducible exact HB5 | with_reducible refine Below.setCell ?_ HG.out _ | with_reducible refine Below_drewR ?_ | with_reducible refine below_drewN ?_ _)))
      case pos =>
        match x2, hz with
        | [r, d, s], _ =>
          have HPO := Lib.hid (farmOf_three HTH.out)
          have HPA : Hid (Parts (g + 1) w4 [u0, u1] [x0, x1]) := by
            have z1 := hb1.out
            have z3 := HBB.out
            refine ⟨OF_leN O0.out (by omega), fun u hu => ?_, OF_leN O1.out (by omega), fun u hu => by simp at hu, trivial⟩
            obtain rfl : u = u1 := by simpa using hu
            exact D01.out
          have HCP := Lib.hid (fun W (hb : Below w4.heap.size w4 W) => (s_l06Give u0 u1 x0 x1 r d s W (RF_below R0 hb) (RF_below R1 hb)).mono fun e w' (h : GiveF (farmOk x0 x1 r d s) u0 u1 r d s W e w') => (show e = .returned (.tuple #[if farmOk x0 x1 r d s then farmV u0 u1 r d s else farmV nilS nilS 0 0 0, .bool (farmOk x0 x1 r d s)]) ∧ Below W.heap.size W w' from h))
          obtain ⟨q0, e0, rfl, -, -⟩ := R0
          obtain ⟨q1, e1, rfl, -, -⟩ := R1
          obtain ⟨qz, oz, e2, rfl, y0, y1, y2⟩ := RF_three R2
          have HQG : Hid (∀ i j, (⟨g, i, none⟩ : Addr) ≠ ⟨qz, j, none⟩) := fun i j e => by
            have := (World.ownsRow.lt O2.out qz rfl).1
            have := hb1.out
            have := hb2.out
            have := HBB.out
            cases e
            omega
          have HX : Hid (∀ W, Below w4.heap.size w4 W → (W.cell? ⟨qz, oz, none⟩ = some (.float .f32 r) ∧ W.cell? ⟨qz, oz + 1, none⟩ = some (.float .f32 d) ∧ W.cell? ⟨qz, oz + 2, none⟩ = some (.float .f32 s)) ∧ (∀ j, W.frozen? ⟨g, j, none⟩ = false) ∧ (W.cell? ⟨g, 0, none⟩ = some nilS ∧ W.cell? ⟨g, 1, none⟩ = some nilS ∧ W.cell? ⟨g, 2, none⟩ = some (.float .f32 0) ∧ W.cell? ⟨g, 3, none⟩ = some (.float .f32 0) ∧ W.cell? ⟨g, 4, none⟩ = some (.float .f32 0)) ∧ Below w.heap.size w W) :=
            fun W hb => ⟨⟨hcell_below y0 hb, hcell_below y1 hb, hcell_below y2 hb⟩, fun j => (hb.frozen (p := ⟨g, j, none⟩) (show g < _ from block_lt_of_cell HA4.out.1)).trans (HS4.out j), HA4.out.below hb, below_step (Nat.le_refl _) HBZ.out hb⟩
          clear HTH O0 O1 O2 D01 D02 D12 HB3 hb1 hb2 HBB c0 c1 c2 c3 c4 hs
          cases hok : farmOk x0 x1 r d s
          · have HNO : Hid (farmOf t = none) := by show _ = _; rw [HPO.out, hok]; rfl
            rw [hok] at HCP
            simp only [reduceIte, Bool.false_eq_true] at HCP
            clear hok HPO HPA
            go_wp2_with fail
            go_region_held3 (fun w' => w'.cell? ⟨qz, oz, none⟩ = some (.float .f32 r) ∧ w'.cell? ⟨qz, oz + 1, none⟩ = some (.float .f32 d) ∧ w'.cell? ⟨qz, oz + 2, none⟩ = some (.float .f32 s))
              (first
                | ((refine (HX.out _ ?_).1; (repeat (first | with_reducible exact Below.refl _ _ | with_reducible exact hb6 | with_reducible refine Below_drewR ?_)); done))
                | ((refine ⟨?_, ?_, ?_⟩ <;> (repeat (first | with_reducible exact m0 | with_reducible exact m1 | with_reducible exact m2 | with_reducible refine (World.cell?_setCell_other _ _ _ _ (HQG.out _ _)).trans ?_ | with_reducible refine cell_drewR ?_)))))
              ((go_at_call 42; with_reducible refine (HCP.out _ ?_).mono ?_; (focus (repeat (first | with_reducible exact Below.refl _ _ | with_reducible refine Below_drewR ?_))); rintro e' w5 ⟨rfl, hb5⟩; have hb6 := below_step (Nat.le_refl _) (Below_drewR (Below.refl w4.heap.size w4)) hb5; obtain ⟨⟨m0, m1, m2⟩, hs5, ⟨c0, c1, c2, c3, c4⟩, HB5⟩ := HX.out _ hb6))
            go_wp2
            exact bodyPost_ret (v := .tuple #[farmV nilS nilS 0 0 0, .bool false]) (by simp [results, Tryd.results29, go_sem, *]) rfl (FarmRd.no HNO.out (by repeat (first | with_reducible exact HBZ.out | with_reducible exact HB5 | with_reducible refine Below.setCell ?_ HG.out _ | with_reducible refine Below_drewR ?_ | with_reducible refine below_drewN ?_ _)))
          · have HYE : Hid (farmOf t = some (x0, x1, r, d, s)) := by show _ = _; rw [HPO.out, hok]; rfl
            rw [hok] at HCP
            simp only [reduceIte] at HCP
            clear hok HPO
            go_wp2_with fail
            go_region_held3 (fun w' => w'.cell? ⟨qz, oz, none⟩ = some (.float .f32 r) ∧ w'.cell? ⟨qz, oz + 1, none⟩ = some (.float .f32 d) ∧ w'.cell? ⟨qz, oz + 2, none⟩ = some (.float .f32 s))
              (first
                | ((refine (HX.out _ ?_).1; (repeat (first | with_reducible exact Below.refl _ _ | with_reducible exact hb6 | with_reducible refine Below_drewR ?_)); done))
                | ((refine ⟨?_, ?_, ?_⟩ <;> (repeat (first | with_reducible exact m0 | with_reducible exact m1 | with_reducible exact m2 | with_reducible refine (World.cell?_setCell_other _ _ _ _ (HQG.out _ _)).trans ?_ | with_reducible refine cell_drewR ?_)))))
              ((go_at_call 42; with_reducible refine (HCP.out _ ?_).mono ?_; (focus (repeat (first | with_reducible exact Below.refl _ _ | with_reducible refine Below_drewR ?_))); rintro e' w5 ⟨rfl, hb5⟩; have hb6 := below_step (Nat.le_refl _) (Below_drewR (Below.refl w4.heap.size w4)) hb5; obtain ⟨⟨m0, m1, m2⟩, hs5, ⟨c0, c1, c2, c3, c4⟩, HB5⟩ := HX.out _ hb6))
            have HP5 := Lib.hid (HPA.out.below hb6)
            go_wp2
            exact bodyPost_ret (v := .tuple #[farmV (.slice q0 x0.length e0) (.slice q1 x1.length e1) r d s, .bool true]) (by simp [results, Tryd.results29, go_sem, *]) rfl (FarmRd.ok HYE.out (Parts_le (Nat.le_succ_of_le HG.out) (by repeat (first | with_reducible exact HP5.out | with_reducible refine Parts_set (Nat.lt_succ_self g) _ _ ?_ | with_reducible refine Parts_drewR ?_))) (by repeat (first | with_reducible exact HB5 | with_reducible refine Below.setCell ?_ HG.out _ | with_reducible refine Below_drewR ?_ | with_reducible refine below_drewN ?_ _)))
set_option maxHeartbeats 1000000 in
theorem s_ReadFarm (t : ByteArray) (hs : t.size ≤ 1048576) (w : World) : Calls Tryd.prog 14 #[.string t] w (FarmRd t w) := by
  have HN := Lib.hid (fun W => s_l08ReadFarm t hs W)
  clear hs
  go_enter Tryd.func14, Tryd.ntmps14
  go_wp2_with fail
  obtain ⟨w0, hw0⟩ : ∃ w0, w0 = w.alloc (.cells #[nilS, nilS, .float .f32 0, .float .f32 0, .float .f32 0] 37) := ⟨_, rfl⟩
  have HB : Hid (Below w.heap.size w w0) := by rw [hw0]; exact (by repeat (first | exact Below.refl _ _ | assumption | refine below_drewN ?_ _ | refine below_alloc (Nat.le_refl _) ?_ _ | (refine Below.setCell ?_ (by first | exact Nat.le_refl _ | (simp; done) | (simp; omega) | omega) _) | (refine below_step (Nat.le_refl _) ?_ (by assumption))))
  have HA : Hid (FarmAt w0 w.heap.size nilS nilS 0 0 0) := by rw [hw0]; exact farm_top w _ rfl _ _ _ _ _ _
  have HS : Hid (∀ j, w0.frozen? ⟨w.heap.size, j, none⟩ = false) := by rw [hw0]; exact softR w _ rfl _ _
  rw [← hw0]
  clear hw0
  refine (HN.out w0).mono ?_
  rintro e' w1 ⟨u0, u1, rfl, hp, hb⟩
  obtain ⟨g, hg⟩ : ∃ g, g = w.heap.size := ⟨_, rfl⟩
  have HBZ := Lib.hid (below_step (Nat.le_refl _) HB.out hb)
  have HA1 := Lib.hid (HA.out.below hb)
  have hs : ∀ j, w1.frozen? ⟨g, j, none⟩ = false := fun j => (hb.frozen (p := ⟨g, j, none⟩) (show g < _ from by rw [hg]; exact block_lt_of_cell HA.out.1)).trans (by rw [hg]; exact HS.out j)
  have hg0 : g + 1 ≤ w0.heap.size := by rw [hg]; exact block_lt_of_cell HA.out.1
  have HP := Lib.hid (Parts_le hg0 hp)
  rw [← hg] at HA1
  rw [← hg]
  have HG : Hid (w.heap.size ≤ g) := by show _ ≤ _; omega
  obtain ⟨c0, c1, c2, c3, c4⟩ := HA1.out
  clear hg hg0 hb hp HN HB HA HS HA1
  cases hpo : farmOf t with
  | none =>
    have HNO := Lib.hid hpo
    rw [hpo] at HP
    obtain ⟨q0, e0, rfl, -, -⟩ := RF_of_own HP.out.1 (by simp)
    obtain ⟨q1, e1, rfl, -, -⟩ := RF_of_own HP.out.2.2.1 (by simp)
    replace HP := Lib.hid (show Parts (g + 1) w1 [.slice q0 0 e0, .slice q1 0 e1] [[], []] from HP.out)
    clear hpo
    dsimp only [Option.isSome_none, farmN]
    go_wp2
    exact bodyPost_ret (v := .tuple #[farmV (.slice q0 0 e0) (.slice q1 0 e1) 0 0 0, .bool false]) (by simp [results, Tryd.results14, go_sem, *]) rfl ⟨_, _, by rw [HNO.out]; rfl, by rw [HNO.out]; show Parts _ _ _ [[], []]; exact Parts_le (Nat.le_succ_of_le HG.out) (by repeat (first | with_reducible exact HP.out | with_reducible refine Parts_set (Nat.lt_succ_self g) _ _ ?_ | with_reducible refine Parts_drewR ?_)), by repeat (first | with_reducible exact HBZ.out | with_reducible refine Below.setCell ?_ HG.out _ | with_reducible refine below_drewN ?_ _)⟩
  | some x =>
    obtain ⟨x, y, r, d, s⟩ := x
    have HYE := Lib.hid hpo
    rw [hpo] at HP
    have hfew := farmOf_few hpo
    obtain ⟨q0, e0, rfl, -, -⟩ := RF_of_own HP.out.1 (by omega)
    obtain ⟨q1, e1, rfl, -, -⟩ := RF_of_own HP.out.2.2.1 (by omega)
    replace HP := Lib.hid (show Parts (g + 1) w1 [.slice q0 x.length e0, .slice q1 y.length e1] [x, y] from HP.out)
    clear hpo hfew
    dsimp only [Option.isSome_some, farmN]
    go_wp2
    exact bodyPost_ret (v := .tuple #[farmV (.slice q0 x.length e0) (.slice q1 y.length e1) r d s, .bool true]) (by simp [results, Tryd.results14, go_sem, *]) rfl (FarmRd.ok HYE.out (Parts_le (Nat.le_succ_of_le HG.out) (by repeat (first | with_reducible exact HP.out | with_reducible refine Parts_set (Nat.lt_succ_self g) _ _ ?_ | with_reducible refine Parts_drewR ?_))) (by repeat (first | with_reducible exact HBZ.out | with_reducible refine Below.setCell ?_ HG.out _ | with_reducible refine below_drewN ?_ _)))
end Go.Proofs.YtpkkgfjjnggijaaDoor
