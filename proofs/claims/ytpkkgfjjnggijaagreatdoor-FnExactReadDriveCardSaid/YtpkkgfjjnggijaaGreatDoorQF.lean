/- Walks: a drive read, the program's, whole. -/
import Derived.Test.YtpkkgfjjnggijaaGreatDoorQE
namespace Go.Proofs.YtpkkgfjjnggijaaGreatDoor
set_option linter.unusedSimpArgs false
set_option linter.unusedVariables false
open Go.RowKit Go.Fl Go.Tx Go.Lib

set_option maxRecDepth 100000 in
set_option maxHeartbeats 4000000 in
theorem i_ReadDrive (t : ByteArray) (hs : t.size ≤ 1048576) (w : World) (hg : RG w) (ht : TabP w) : Calls Tryz.prog 6 #[.string t] w (DrvRd t w) := by
  obtain ⟨M, hm⟩ := hg.len
  have HSZ := Lib.hid (fun p (hp : p ∈ cutAll 59 t) => Nat.le_trans (cutAll_size 59 t hp) hs)
  have HSP := Lib.hid (splitB_cutAll 59 t ⟨#[59]⟩ rfl)
  have HCL := Lib.hid (countB_len 59 t ⟨#[59]⟩ rfl)
  have HLL : Hid ((cutAll 59 t).length ≤ 1048577) := by show _ ≤ _; have := (cutAll_len 59 t).2; omega
  have HSPL := Lib.hid (fun W (hM : W.cell? ⟨1, 0, none⟩ = some (.int .i64 M)) => Tryz.strings_Split t ⟨#[59]⟩ M W (by omega) hM (Nat.le_refl 1))
  have HM := Lib.hid hm
  have HGL := Lib.hid (And.intro hg ht)
  clear hm hg ht hs
  go_enter Tryz.func6, Tryz.ntmps6
  go_wp2_with fail
  obtain ⟨w0, hw0⟩ : ∃ w0, w0 = w.alloc (.cells #[.float .f32 0, .float .f32 0, .float .f32 0, .float .f32 0, .float .f32 0, .float .f32 0, .float .f32 0, .float .f32 0, .int .i64 0, .float .f32 0, .float .f32 0, .float .f32 0] 26) := ⟨_, rfl⟩
  have HB : Hid (Below w.heap.size w w0) := by rw [hw0]; exact (by repeat (first | exact Below.refl _ _ | assumption | refine below_drewN ?_ _ | refine below_alloc (Nat.le_refl _) ?_ _ | (refine Below.setCell ?_ (by first | exact Nat.le_refl _ | (simp; done) | (simp; omega) | omega) _) | (refine below_step (Nat.le_refl _) ?_ (by assumption))))
  have HA : Hid (zeroDr.At w0 w.heap.size) := by rw [hw0]; exact drv_top w _ rfl _ _ _ _ _ _ _ _ _ _ _ _ _
  have HS : Hid (∀ j, w0.frozen? ⟨w.heap.size, j, none⟩ = false) := by rw [hw0]; exact softD w _ rfl _ _
  rw [← hw0]
  clear hw0
  refine (HSPL.out w0 (hcell_below HM.out HB.out)).mono ?_
  rintro e' w' ⟨rfl, rfl⟩
  rw [HSP.out, ← HCL.out]
  have hR0 := RS_topD w0 _ rfl (cutAll 59 t) 9 (by have := HLL.out; omega)
  obtain ⟨w1, hw1⟩ : ∃ w1, w1 = w0.alloc (.cells ((cutAll 59 t).map Value.string).toArray 9) := ⟨_, rfl⟩
  have hb : Below w0.heap.size w0 w1 := by rw [hw1]; exact below_alloc (Nat.le_refl _) (Below.refl _ _) _
  rw [← hw1] at hR0
  rw [← hw1]
  obtain ⟨g, hg⟩ : ∃ g, g = w.heap.size := ⟨_, rfl⟩
  have HB1 := Lib.hid (below_step (Nat.le_refl _) HB.out hb)
  have HA1 := Lib.hid (HA.out.below hb)
  have HS1 : Hid (∀ j, w1.frozen? ⟨g, j, none⟩ = false) := fun j => (hb.frozen (p := ⟨g, j, none⟩) (show g < _ from by rw [hg]; exact block_lt_of_cell HA.out.1.1)).trans (by rw [hg]; exact HS.out j)
  rw [← hg] at HA1
  rw [← hg]
  have HG : Hid (w.heap.size ≤ g) := by show _ ≤ _; omega
  obtain ⟨n0, hn0⟩ : ∃ n0, n0 = w0.heap.size := ⟨_, rfl⟩
  rw [← hn0] at hR0
  rw [← hn0]
  clear hg hb hw1 hn0 HSPL HSP HCL HM HB HA HS
  by_cases hl : (cutAll 59 t).length = 3
  case neg =>
    have HNO := Lib.hid (driveOf_len hl)
    have hne : (((cutAll 59 t).length : Int) != 3) = true := by simp; omega
    have HBZ := HB1
    have hs := HS1.out
    obtain ⟨⟨c0, c1, c2, c3, c4, c5, c6, c7⟩, c8, c9, c10, c11⟩ := HA1.out
    clear hl HSZ HA1 HS1 hR0
    go_wp2
    exact bodyPost_ret (v := .tuple #[drvV 0 0 0 0 0 0 0 0 0 0 0 0, .bool false]) (by simp [results, Tryz.results6, go_sem, *]) rfl (DrvRd.no HNO.out (by repeat (first | with_reducible exact HBZ.out | with_reducible exact HB5 | with_reducible refine Below.setCell ?_ HG.out _ | with_reducible refine Below_drewD ?_ | with_reducible refine below_drewN ?_ _)))
  case pos =>
    obtain ⟨p0, p1, p2, hcut⟩ : ∃ p0 p1 p2, cutAll 59 t = [p0, p1, p2] := by
      match cutAll 59 t, hl with
      | [a, b, c], _ => exact ⟨a, b, c, rfl⟩
    have HZ0 := HSZ.out p0 (by rw [hcut]; simp)
    have HZ1 := HSZ.out p1 (by rw [hcut]; simp)
    have HZ2 := HSZ.out p2 (by rw [hcut]; simp)
    rw [hcut] at hR0
    rw [hcut]
    have H3 := Lib.hid (driveOf_mk hcut)
    obtain ⟨q, o, cap, hq, k0, k1, k2⟩ := RS_thr hR0
    cases hq
    have HN0 := Lib.hid (fun W h => i_ReadNumbers p0 HZ0 W h)
    have HN1 := Lib.hid (fun W h h2 => i_ReadDecimal p1 (by omega) W h h2)
    have HN2 := Lib.hid (fun W h => i_ReadNumbers p2 HZ2 W h)
    have HK1 := Lib.hid k1
    have HK2 := Lib.hid k2
    clear hl hcut hR0 HSZ HZ0 HZ1 HZ2 k1 k2
    dsimp only [List.length_cons, List.length_nil, Nat.zero_add]
    go_wp2_with fail
    refine (HN0.out _ (HGL.out.1.below HB1.out)).mono ?_
    rintro e' w2 ⟨u0, rfl, o0, hb⟩
    have HB2 := Lib.hid (below_step (Nat.le_refl _) HB1.out hb)
    have HA2 := Lib.hid (HA1.out.below hb)
    have HS2 : Hid (∀ j, w2.frozen? ⟨g, j, none⟩ = false) := fun j => (hb.frozen (p := ⟨g, j, none⟩) (show g < _ from block_lt_of_cell HA1.out.1.1)).trans (HS1.out j)
    have O0 := Lib.hid (show OF (g + 1) w2 u0 _ from OF_leN o0 (block_lt_of_cell HA1.out.1.1))
    have k1 := hcell_below HK1.out hb
    have HK3 := Lib.hid (hcell_below HK2.out hb)
    clear o0 hb HN0 HB1 HA1 HS1 HK1 HK2 k0
    go_wp2_with fail
    refine (HN1.out _ (HGL.out.1.below HB2.out) (TabP_below HGL.out.2 HB2.out)).mono ?_
    rintro e' w3 ⟨rfl, hb⟩
    have HB3 := Lib.hid (below_step (Nat.le_refl _) HB2.out hb)
    have HA3 := Lib.hid (HA2.out.below hb)
    have HS3 : Hid (∀ j, w3.frozen? ⟨g, j, none⟩ = false) := fun j => (hb.frozen (p := ⟨g, j, none⟩) (show g < _ from block_lt_of_cell HA2.out.1.1)).trans (HS2.out j)
    replace O0 := Lib.hid (OF_belowN O0.out hb)
    have k2 := hcell_below HK3.out hb
    clear hb HN1 HB2 HA2 HS2 HK3 k1
    go_wp2_with fail
    refine (HN2.out _ (HGL.out.1.below HB3.out)).mono ?_
    rintro e' w4 ⟨u2, rfl, o2, hb⟩
    have HBZ := Lib.hid (below_step (Nat.le_refl _) HB3.out hb)
    have HA4 := Lib.hid (HA3.out.below hb)
    have HS4 : Hid (∀ j, w4.frozen? ⟨g, j, none⟩ = false) := fun j => (hb.frozen (p := ⟨g, j, none⟩) (show g < _ from block_lt_of_cell HA3.out.1.1)).trans (HS3.out j)
    have O2 := Lib.hid (show OF (g + 1) w4 u2 _ from OF_leN o2 (block_lt_of_cell HA3.out.1.1))
    replace O0 := Lib.hid (OF_belowN O0.out hb)
    clear o2 hb HN2 HA3 HS3 k2 HB3 HGL
    by_cases hall : ((numsOf p0).isSome && (decOf p1).isSome && (numsOf p2).isSome) = true
    case neg =>
      have HNO := Lib.hid (H3.out.trans (drOf_no (by simpa using hall)))
      have hs := HS4.out
      obtain ⟨⟨c0, c1, c2, c3, c4, c5, c6, c7⟩, c8, c9, c10, c11⟩ := HA4.out
      clear H3 O0 O2 HA4 HS4
      generalize (numsOf p0).isSome = b0 at *
      generalize (decOf p1).isSome = b1 at *
      generalize (numsOf p2).isSome = b2 at *
      cases b0
      · clear hall
        go_wp2
        exact bodyPost_ret (v := .tuple #[drvV 0 0 0 0 0 0 0 0 0 0 0 0, .bool false]) (by simp [results, Tryz.results6, go_sem, *]) rfl (DrvRd.no HNO.out (by repeat (first | with_reducible exact HBZ.out | with_reducible exact HB5 | with_reducible refine Below.setCell ?_ HG.out _ | with_reducible refine Below_drewD ?_ | with_reducible refine below_drewN ?_ _)))
      cases b1
      · clear hall
        go_wp2
        exact bodyPost_ret (v := .tuple #[drvV 0 0 0 0 0 0 0 0 0 0 0 0, .bool false]) (by simp [results, Tryz.results6, go_sem, *]) rfl (DrvRd.no HNO.out (by repeat (first | with_reducible exact HBZ.out | with_reducible exact HB5 | with_reducible refine Below.setCell ?_ HG.out _ | with_reducible refine Below_drewD ?_ | with_reducible refine below_drewN ?_ _)))
      cases b2
      · clear hall
        go_wp2
        exact bodyPost_ret (v := .tuple #[drvV 0 0 0 0 0 0 0 0 0 0 0 0, .bool false]) (by simp [results, Tryz.results6, go_sem, *]) rfl (DrvRd.no HNO.out (by repeat (first | with_reducible exact HBZ.out | with_reducible exact HB5 | with_reducible refine Below.setCell ?_ HG.out _ | with_reducible refine Below_drewD ?_ | with_reducible refine below_drewN ?_ _)))
      · exact absurd rfl hall
    case pos =>
      simp only [Bool.and_eq_true, Option.isSome_iff_exists] at hall
      obtain ⟨⟨⟨x0, h0⟩, st, h1⟩, x2, h2⟩ := hall
      rw [h0] at O0
      rw [h2] at O2
      rw [h0, h1, h2] at H3
      rw [h0, h1, h2]
      have P0 : OF (g + 1) w4 u0 x0 := O0.out
      have P2 : OF (g + 1) w4 u2 x2 := O2.out
      have R0 : RF w4 u0 x0 := RF_of_own P0 (by have := nums_len h0; omega)
      have R2 : RF w4 u2 x2 := RF_of_own P2 (by have := nums_len h2; omega)
      clear h0 h1 h2 O0 O2
      dsimp only [Option.isSome_some, Option.getD_some]
      by_cases hz : x0.length = 8 ∧ x2.length = 3
      case neg =>
        have HNO := Lib.hid (H3.out.trans (drOf_len (x := x0) (n := st) (y := x2) (by omega)))
        have hs := HS4.out
        obtain ⟨⟨c0, c1, c2, c3, c4, c5, c6, c7⟩, c8, c9, c10, c11⟩ := HA4.out
        clear P0 P2
        obtain ⟨q0, e0, rfl, -, -⟩ := R0
        obtain ⟨q2, e2, rfl, -, -⟩ := R2
        clear H3 HA4 HS4
        by_cases h8 : x0.length = 8
        · have he8 : ((x0.length : Int) != 8) = false := by simp; omega
          have hne : ((x2.length : Int) != 3) = true := by simp; omega
          clear hz h8
          go_wp2
          exact bodyPost_ret (v := .tuple #[drvV 0 0 0 0 0 0 0 0 0 0 0 0, .bool false]) (by simp [results, Tryz.results6, go_sem, *]) rfl (DrvRd.no HNO.out (by repeat (first | with_reducible exact HBZ.out | with_reducible exact HB5 | with_reducible refine Below.setCell ?_ HG.out _ | with_reducible refine Below_drewD ?_ | with_reducible refine below_drewN ?_ _)))
        · have he8 : ((x0.length : Int) != 8) = true := by simp; omega
          clear hz h8
          go_wp2
          exact bodyPost_ret (v := .tuple #[drvV 0 0 0 0 0 0 0 0 0 0 0 0, .bool false]) (by simp [results, Tryz.results6, go_sem, *]) rfl (DrvRd.no HNO.out (by repeat (first | with_reducible exact HBZ.out | with_reducible exact HB5 | with_reducible refine Below.setCell ?_ HG.out _ | with_reducible refine Below_drewD ?_ | with_reducible refine below_drewN ?_ _)))
      case pos =>
        match x0, x2, hz with
        | [i, d, r, l, m, s, k, e], [sp, pi, en], _ =>
          obtain ⟨q0, o0, e0, rfl, K0⟩ := RF_eight R0
          obtain ⟨q2, o2, e2, rfl, K2⟩ := RF_thr R2
          have HF : Hid (driveOf t = if drvOk i d r l m s k e st sp pi en then some ⟨i, d, r, l, m, s, k, e, st, sp, pi, en⟩ else none) := H3.out
          have HQG : Hid (∀ a b, (⟨g, a, none⟩ : Addr) ≠ ⟨q0, b, none⟩) := fun a b h => by
            have := (World.ownsRow.lt P0 q0 rfl).1
            cases h; omega
          have HZG : Hid (∀ a b, (⟨g, a, none⟩ : Addr) ≠ ⟨q2, b, none⟩) := fun a b h => by
            have := (World.ownsRow.lt P2 q2 rfl).1
            cases h; omega
          have HCP := Lib.hid (fun W => i_checkedDrive ⟨i, d, r, l, m, s, k, e, st, sp, pi, en⟩ W)
          have HX : Hid (∀ W, Below w4.heap.size w4 W → ((W.cell? ⟨q0, o0, none⟩ = some (.float .f32 i) ∧ W.cell? ⟨q0, o0 + 1, none⟩ = some (.float .f32 d) ∧ W.cell? ⟨q0, o0 + 2, none⟩ = some (.float .f32 r) ∧ W.cell? ⟨q0, o0 + 3, none⟩ = some (.float .f32 l) ∧ W.cell? ⟨q0, o0 + 4, none⟩ = some (.float .f32 m) ∧ W.cell? ⟨q0, o0 + 5, none⟩ = some (.float .f32 s) ∧ W.cell? ⟨q0, o0 + 6, none⟩ = some (.float .f32 k) ∧ W.cell? ⟨q0, o0 + 7, none⟩ = some (.float .f32 e)) ∧ (W.cell? ⟨q2, o2, none⟩ = some (.float .f32 sp) ∧ W.cell? ⟨q2, o2 + 1, none⟩ = some (.float .f32 pi) ∧ W.cell? ⟨q2, o2 + 2, none⟩ = some (.float .f32 en))) ∧ (∀ j, W.frozen? ⟨g, j, none⟩ = false) ∧ ((W.cell? ⟨g, 0, none⟩ = some (.float .f32 0) ∧ W.cell? ⟨g, 1, none⟩ = some (.float .f32 0) ∧ W.cell? ⟨g, 2, none⟩ = some (.float .f32 0) ∧ W.cell? ⟨g, 3, none⟩ = some (.float .f32 0) ∧ W.cell? ⟨g, 4, none⟩ = some (.float .f32 0) ∧ W.cell? ⟨g, 5, none⟩ = some (.float .f32 0) ∧ W.cell? ⟨g, 6, none⟩ = some (.float .f32 0) ∧ W.cell? ⟨g, 7, none⟩ = some (.float .f32 0)) ∧ W.cell? ⟨g, 8, none⟩ = some (.int .i64 0) ∧ W.cell? ⟨g, 9, none⟩ = some (.float .f32 0) ∧ W.cell? ⟨g, 10, none⟩ = some (.float .f32 0) ∧ W.cell? ⟨g, 11, none⟩ = some (.float .f32 0)) ∧ Below w.heap.size w W) :=
            fun W hb => by
              obtain ⟨a0, a1, a2, a3, a4, a5, a6, a7⟩ := K0
              exact ⟨⟨⟨hcell_below a0 hb, hcell_below a1 hb, hcell_below a2 hb, hcell_below a3 hb, hcell_below a4 hb, hcell_below a5 hb, hcell_below a6 hb, hcell_below a7 hb⟩, hcell_below K2.1 hb, hcell_below K2.2.1 hb, hcell_below K2.2.2 hb⟩,
                fun j => (hb.frozen (p := ⟨g, j, none⟩) (show g < _ from block_lt_of_cell HA4.out.1.1)).trans (HS4.out j), HA4.out.below hb, below_step (Nat.le_refl _) HBZ.out hb⟩
          clear H3 R0 R2 P0 P2
          obtain ⟨k0, k1, k2, k3, k4, k5, k6, k7⟩ := K0
          obtain ⟨j0, j1, j2⟩ := K2
          cases hok : drvOk i d r l m s k e st sp pi en
          · have HCQ : Hid (∀ W, Calls Tryz.prog 17 #[drvV i d r l m s k e st sp pi en] W fun e' w' => e' = .returned (.tuple #[drvV 0 0 0 0 0 0 0 0 0 0 0 0, .bool false]) ∧ Below W.heap.size W w') := fun W => by
              have h := HCP.out W
              rw [show Dr.ok ⟨i, d, r, l, m, s, k, e, st, sp, pi, en⟩ = _ from hok] at h
              exact h
            have HNO : Hid (driveOf t = none) := by show _ = _; rw [HF.out, hok]; rfl
            clear hok HF HCP
            go_wp2_with fail
            go_region_held3 (fun w' => (w'.cell? ⟨q0, o0, none⟩ = some (.float .f32 i) ∧ w'.cell? ⟨q0, o0 + 1, none⟩ = some (.float .f32 d) ∧ w'.cell? ⟨q0, o0 + 2, none⟩ = some (.float .f32 r) ∧ w'.cell? ⟨q0, o0 + 3, none⟩ = some (.float .f32 l) ∧ w'.cell? ⟨q0, o0 + 4, none⟩ = some (.float .f32 m) ∧ w'.cell? ⟨q0, o0 + 5, none⟩ = some (.float .f32 s) ∧ w'.cell? ⟨q0, o0 + 6, none⟩ = some (.float .f32 k) ∧ w'.cell? ⟨q0, o0 + 7, none⟩ = some (.float .f32 e)) ∧ (w'.cell? ⟨q2, o2, none⟩ = some (.float .f32 sp) ∧ w'.cell? ⟨q2, o2 + 1, none⟩ = some (.float .f32 pi) ∧ w'.cell? ⟨q2, o2 + 2, none⟩ = some (.float .f32 en)))
              (first
                | ((refine (HX.out _ ?_).1; (repeat (first | with_reducible exact Below.refl _ _ | with_reducible exact hb6 | with_reducible refine Below_drewD ?_)); done))
                | ((refine ⟨⟨?_, ?_, ?_, ?_, ?_, ?_, ?_, ?_⟩, ⟨?_, ?_, ?_⟩⟩ <;> (repeat (first | with_reducible exact m0 | with_reducible exact m1 | with_reducible exact m2 | with_reducible exact m3 | with_reducible exact m4 | with_reducible exact m5 | with_reducible exact m6 | with_reducible exact m7 | with_reducible exact y0 | with_reducible exact y1 | with_reducible exact y2 | with_reducible refine (World.cell?_setCell_other _ _ _ _ (HQG.out _ _)).trans ?_ | with_reducible refine (World.cell?_setCell_other _ _ _ _ (HZG.out _ _)).trans ?_ | with_reducible refine hcell_drewD ?_)))))
              ((go_at_call 17; with_reducible refine (HCQ.out _).mono ?_; rintro e' w5 ⟨rfl, hb5⟩; have hb6 := below_step (Nat.le_refl _) (Below_drewD (Below.refl w4.heap.size w4)) hb5; obtain ⟨⟨⟨m0, m1, m2, m3, m4, m5, m6, m7⟩, y0, y1, y2⟩, hs5, ⟨⟨c0, c1, c2, c3, c4, c5, c6, c7⟩, c8, c9, c10, c11⟩, HB5⟩ := HX.out _ hb6))
            go_wp2
            exact bodyPost_ret (v := .tuple #[drvV 0 0 0 0 0 0 0 0 0 0 0 0, .bool false]) (by simp [results, Tryz.results6, go_sem, *]) rfl (DrvRd.no HNO.out (by repeat (first | with_reducible exact HBZ.out | with_reducible exact HB5 | with_reducible refine Below.setCell ?_ HG.out _ | with_reducible refine Below_drewD ?_ | with_reducible refine below_drewN ?_ _)))
          · have HCQ : Hid (∀ W, Calls Tryz.prog 17 #[drvV i d r l m s k e st sp pi en] W fun e' w' => e' = .returned (.tuple #[drvV i d r l m s k e st sp pi en, .bool true]) ∧ Below W.heap.size W w') := fun W => by
              have h := HCP.out W
              rw [show Dr.ok ⟨i, d, r, l, m, s, k, e, st, sp, pi, en⟩ = _ from hok] at h
              exact h
            have HYE : Hid (driveOf t = some ⟨i, d, r, l, m, s, k, e, st, sp, pi, en⟩) := by show _ = _; rw [HF.out, hok]; rfl
            clear hok HF HCP
            go_wp2_with fail
            go_region_held3 (fun w' => (w'.cell? ⟨q0, o0, none⟩ = some (.float .f32 i) ∧ w'.cell? ⟨q0, o0 + 1, none⟩ = some (.float .f32 d) ∧ w'.cell? ⟨q0, o0 + 2, none⟩ = some (.float .f32 r) ∧ w'.cell? ⟨q0, o0 + 3, none⟩ = some (.float .f32 l) ∧ w'.cell? ⟨q0, o0 + 4, none⟩ = some (.float .f32 m) ∧ w'.cell? ⟨q0, o0 + 5, none⟩ = some (.float .f32 s) ∧ w'.cell? ⟨q0, o0 + 6, none⟩ = some (.float .f32 k) ∧ w'.cell? ⟨q0, o0 + 7, none⟩ = some (.float .f32 e)) ∧ (w'.cell? ⟨q2, o2, none⟩ = some (.float .f32 sp) ∧ w'.cell? ⟨q2, o2 + 1, none⟩ = some (.float .f32 pi) ∧ w'.cell? ⟨q2, o2 + 2, none⟩ = some (.float .f32 en)))
              (first
                | ((refine (HX.out _ ?_).1; (repeat (first | with_reducible exact Below.refl _ _ | with_reducible exact hb6 | with_reducible refine Below_drewD ?_)); done))
                | ((refine ⟨⟨?_, ?_, ?_, ?_, ?_, ?_, ?_, ?_⟩, ⟨?_, ?_, ?_⟩⟩ <;> (repeat (first | with_reducible exact m0 | with_reducible exact m1 | with_reducible exact m2 | with_reducible exact m3 | with_reducible exact m4 | with_reducible exact m5 | with_reducible exact m6 | with_reducible exact m7 | with_reducible exact y0 | with_reducible exact y1 | with_reducible exact y2 | with_reducible refine (World.cell?_setCell_other _ _ _ _ (HQG.out _ _)).trans ?_ | with_reducible refine (World.cell?_setCell_other _ _ _ _ (HZG.out _ _)).trans ?_ | with_reducible refine hcell_drewD ?_)))))
              ((go_at_call 17; with_reducible refine (HCQ.out _).mono ?_; rintro e' w5 ⟨rfl, hb5⟩; have hb6 := below_step (Nat.le_refl _) (Below_drewD (Below.refl w4.heap.size w4)) hb5; obtain ⟨⟨⟨m0, m1, m2, m3, m4, m5, m6, m7⟩, y0, y1, y2⟩, hs5, ⟨⟨c0, c1, c2, c3, c4, c5, c6, c7⟩, c8, c9, c10, c11⟩, HB5⟩ := HX.out _ hb6))
            go_wp2
            exact bodyPost_ret (v := .tuple #[drvV i d r l m s k e st sp pi en, .bool true]) (by simp [results, Tryz.results6, go_sem, *]) rfl (DrvRd.ok HYE.out (by repeat (first | with_reducible exact HB5 | with_reducible refine Below.setCell ?_ HG.out _ | with_reducible refine Below_drewD ?_ | with_reducible refine below_drewN ?_ _)))
end Go.Proofs.YtpkkgfjjnggijaaGreatDoor
