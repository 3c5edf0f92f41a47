/- Walks: a profile read, both. -/
import Derived.Test.YtpkkgfjjnggijaaDoorRI
namespace Go.Proofs.YtpkkgfjjnggijaaDoor
set_option linter.unusedSimpArgs false
set_option linter.unusedVariables false
open Go.RowKit Go.Fl Go.Tx Go.Lib

theorem RS_three {w : World} {v : Value} {p0 p1 p2 : ByteArray} (h : RS w v [p0, p1, p2]) : ∃ g o cap, v = .slice (some ⟨g, o, none⟩) 3 cap ∧ w.cell? ⟨g, o, none⟩ = some (.string p0) ∧ w.cell? ⟨g, o + 1, none⟩ = some (.string p1) ∧ w.cell? ⟨g, o + 2, none⟩ = some (.string p2) := by
  obtain ⟨p, cap, rfl, hm, hc⟩ := h
  obtain ⟨g, o, rfl, hcell⟩ := hc.resolve_left (by simp)
  exact ⟨g, o, cap, rfl, hcell 0 _ rfl, hcell 1 _ rfl, hcell 2 _ rfl⟩
theorem profOf_few {t : ByteArray} {a l d : List Nat} (h : profOf t = some (a, l, d)) : a.length ≤ 24 ∧ l.length ≤ 24 ∧ d.length ≤ 24 := by
  unfold profOf at h
  split at h
  · split at h
    · rename_i hk
      cases h
      exact profLen_of hk
    · cases h
  · cases h
theorem threeOf_len3 {c : UInt8} {t : ByteArray} (h : (cutAll c t).length ≠ 3) : threeOf c t = none := by unfold threeOf; rw [if_neg h]
theorem threeOf_mk {c : UInt8} {t p0 p1 p2 : ByteArray} (h : cutAll c t = [p0, p1, p2]) : threeOf c t = numsAll [p0, p1, p2] := by unfold threeOf; rw [h]; rfl
theorem numsAll_no {p0 p1 p2 : ByteArray} (h : ((numsOf p0).isSome && (numsOf p1).isSome && (numsOf p2).isSome) = false) : numsAll [p0, p1, p2] = none := by
  show (match numsOf p0 with | some x => (match numsOf p1 with | some y => (match numsOf p2 with | some z => (numsAll []).map (z :: ·) | none => none).map (y :: ·) | none => none).map (x :: ·) | none => none) = none
  cases h0 : numsOf p0 with
  | none => rfl
  | some x => cases h1 : numsOf p1 with
    | none => rfl
    | some y => cases h2 : numsOf p2 with
      | none => rfl
      | some z => rw [h0, h1, h2] at h; cases h
theorem numsAll_yes {p0 p1 p2 : ByteArray} {x0 x1 x2 : List Nat} (h0 : numsOf p0 = some x0) (h1 : numsOf p1 = some x1) (h2 : numsOf p2 = some x2) : numsAll [p0, p1, p2] = some [x0, x1, x2] := by
  show (match numsOf p0 with | some x => (match numsOf p1 with | some y => (match numsOf p2 with | some z => (numsAll []).map (z :: ·) | none => none).map (y :: ·) | none => none).map (x :: ·) | none => none) = _
  rw [h0, h1, h2]; rfl
theorem Parts_set {B : Nat} {w : World} {k : Nat} (hk : k < B) (i : Nat) (u : Value) : ∀ {vs : List Value} {xs : List (List Nat)}, Parts B w vs xs → Parts B (w.setCell ⟨k, i, none⟩ u) vs xs
  | [], [], _ => trivial
  | v :: vs, x :: xs, h => ⟨OF_set h.1 hk u, h.2.1, Parts_set hk i u h.2.2⟩
  | [], _ :: _, h => h.elim
  | _ :: _, [], h => h.elim
theorem Parts_set3 {B B' : Nat} {w : World} {k : Nat} {vs : List Value} {xs : List (List Nat)} (h : Parts B w vs xs) (hk : k < B) (hB : B' ≤ B) (a b c : Value) : Parts B' (((w.setCell ⟨k, 0, none⟩ a).setCell ⟨k, 1, none⟩ b).setCell ⟨k, 2, none⟩ c) vs xs :=
  Parts_le hB (Parts_set hk _ _ (Parts_set hk _ _ (Parts_set hk _ _ h)))
set_option maxRecDepth 100000 in
set_option maxHeartbeats 2000000 in
theorem s_l08ReadProfile (t : ByteArray) (hs : t.size ≤ 1048576) (w : World) : Calls Tryd.prog 23 #[.string t] w (ProfRd t w) := by
  have HC := Lib.hid (fun W => s_l01Cut t 58 58 rfl W hs)
  have HSZ := Lib.hid (fun p (hp : p ∈ cutAll 58 t) => Nat.le_trans (cutAll_size 58 t hp) hs)
  have HTS := Lib.hid hs
  clear hs
  go_enter Tryd.func23, Tryd.ntmps23
  go_wp2_with fail
  obtain ⟨w0, hw0⟩ : ∃ w0, w0 = w.alloc (.cells #[nilS, nilS, nilS] 31) := ⟨_, rfl⟩
  have HB : Hid (Below w.heap.size w w0) := by rw [hw0]; exact (by repeat (first | exact Below.refl _ _ | assumption | refine below_drewN ?_ _ | refine below_alloc (Nat.le_refl _) ?_ _ | (refine Below.setCell ?_ (by first | exact Nat.le_refl _ | (simp; done) | (simp; omega) | omega) _) | (refine below_step (Nat.le_refl _) ?_ (by assumption))))
  have HA : Hid (ProfAt w0 w.heap.size nilS nilS nilS) := by rw [hw0]; exact prof_top w _ rfl _ _ _ _
  have HS : Hid (∀ j, w0.frozen? ⟨w.heap.size, j, none⟩ = false) := by rw [hw0]; exact softR w _ rfl _ _
  rw [← hw0]
  clear hw0
  refine (HC.out w0).mono ?_
  rintro e' w1 ⟨v, rfl, hO, hb⟩
  have hR := RS_of_own hO (by have := (cutAll_len 58 t).2; have := HTS.out; omega)
  obtain ⟨g, hg⟩ : ∃ g, g = w.heap.size := ⟨_, rfl⟩
  have HB1 := Lib.hid (below_step (Nat.le_refl _) HB.out hb)
  have HA1 := Lib.hid (HA.out.below hb)
  have HS1 : Hid (∀ j, w1.frozen? ⟨g, j, none⟩ = false) := fun j => (hb.frozen (p := ⟨g, j, none⟩) (show g < _ from by rw [hg]; exact block_lt_of_cell HA.out.1)).trans (by rw [hg]; exact HS.out j)
  rw [← hg] at HA1
  rw [← hg]
  have HG : Hid (w.heap.size ≤ g) := by show _ ≤ _; omega
  clear hg hb hO HC HB HA HS
  by_cases hl : (cutAll 58 t).length = 3
  case neg =>
    have HNO := Lib.hid (profOf_none (threeOf_len3 hl))
    obtain ⟨p, cap, rfl, -, -⟩ := hR
    have hne : (((cutAll 58 t).length : Int) != 3) = true := by simp; omega
    have HBZ := HB1
    have hs := HS1.out
    obtain ⟨c0, c1, c2⟩ := HA1.out
    clear hl HSZ HTS HA1 HS1
    go_wp2
    exact bodyPost_ret (v := .tuple #[profV nilS nilS nilS, .bool false]) (by simp [results, Tryd.results23, go_sem, *]) rfl (ProfRd.no HNO.out (by repeat (first | exact HBZ.out | refine Below.setCell ?_ HG.out _ | refine below_drewN ?_ _)))
  case pos =>
    obtain ⟨p0, p1, p2, hcut⟩ : ∃ p0 p1 p2, cutAll 58 t = [p0, p1, p2] := by
      match cutAll 58 t, hl with
      | [a, b, c], _ => exact ⟨a, b, c, rfl⟩
    have HZ0 := HSZ.out p0 (by rw [hcut]; simp)
    have HZ1 := HSZ.out p1 (by rw [hcut]; simp)
    have HZ2 := HSZ.out p2 (by rw [hcut]; simp)
    rw [hcut] at hR
    have H3 := Lib.hid (threeOf_mk hcut)
    obtain ⟨q, o, cap, rfl, k0, k1, k2⟩ := RS_three hR
    have HN0 := Lib.hid (fun W => s_l01NRead p0 HZ0 W)
    have HN1 := Lib.hid (fun W => s_l01NRead p1 HZ1 W)
    have HN2 := Lib.hid (fun W => s_l01NRead p2 HZ2 W)
    have HK1 := Lib.hid k1
    have HK2 := Lib.hid k2
    clear hl hcut hR HSZ HTS HZ0 HZ1 HZ2 k1 k2
    go_wp2_with fail
    refine (HN0.out _).mono ?_
    rintro e' w2 ⟨u0, rfl, o0, hb⟩
    have HB2 := Lib.hid (below_step (Nat.le_refl _) HB1.out hb)
    have HA2 := Lib.hid (HA1.out.below hb)
    have HS2 : Hid (∀ j, w2.frozen? ⟨g, j, none⟩ = false) := fun j => (hb.frozen (p := ⟨g, j, none⟩) (show g < _ from block_lt_of_cell HA1.out.1)).trans (HS1.out j)
    have O0 := Lib.hid o0
    have k1 := hcell_below HK1.out hb
    have HK3 := Lib.hid (hcell_below HK2.out hb)
    have hb1 := Lib.hid hb.size
    have HBB := Lib.hid (show g < w1.heap.size from block_lt_of_cell HA1.out.1)
    clear o0 hb HN0 HB1 HA1 HS1 HK1 HK2 k0
    go_wp2_with fail
    refine (HN1.out _).mono ?_
    rintro e' w3 ⟨u1, rfl, o1, hb⟩
    have HB3 := Lib.hid (below_step (Nat.le_refl _) HB2.out hb)
    have HA3 := Lib.hid (HA2.out.below hb)
    have HS3 : Hid (∀ j, w3.frozen? ⟨g, j, none⟩ = false) := fun j => (hb.frozen (p := ⟨g, j, none⟩) (show g < _ from block_lt_of_cell HA2.out.1)).trans (HS2.out j)
    have O1 := Lib.hid o1
    have D01 := Lib.hid (dis_of O0.out (Nat.le_refl _) o1)
    replace O0 := Lib.hid (OF_belowN O0.out hb)
    have k2 := hcell_below HK3.out hb
    have hb2 := Lib.hid hb.size
    clear o1 hb HN1 HB2 HA2 HS2 HK3 k1
    go_wp2_with fail
    refine (HN2.out _).mono ?_
    rintro e' w4 ⟨u2, rfl, o2, hb⟩
    have HBZ := Lib.hid (below_step (Nat.le_refl _) HB3.out hb)
    have HA4 := Lib.hid (HA3.out.below hb)
    have HS4 : Hid (∀ j, w4.frozen? ⟨g, j, none⟩ = false) := fun j => (hb.frozen (p := ⟨g, j, none⟩) (show g < _ from block_lt_of_cell HA3.out.1)).trans (HS3.out j)
    have O2 := Lib.hid o2
    have D02 := Lib.hid (dis_of O0.out (Nat.le_refl _) o2)
    have D12 := Lib.hid (dis_of O1.out (Nat.le_refl _) o2)
    replace O0 := Lib.hid (OF_belowN O0.out hb)
    replace O1 := Lib.hid (OF_belowN O1.out hb)
    clear o2 hb HN2 HA3 HS3 k2
    have hs := HS4.out
    obtain ⟨c0, c1, c2⟩ := HA4.out
    by_cases hall : ((numsOf p0).isSome && (numsOf p1).isSome && (numsOf p2).isSome) = true
    case neg =>
      have HNO := Lib.hid (profOf_none (H3.out.trans (numsAll_no (by simpa using hall))))
      clear H3 O0 O1 O2 D01 D02 D12 HA4 HS4 HB3 hb1 hb2 HBB
      generalize (numsOf p0).isSome = b0 at *
      generalize (numsOf p1).isSome = b1 at *
      generalize (numsOf p2).isSome = b2 at *
      cases b0
      · clear hall
        go_wp2
        exact bodyPost_ret (v := .tuple #[profV nilS nilS nilS, .bool false]) (by simp [results, Tryd.results23, go_sem, *]) rfl (ProfRd.no HNO.out (by repeat (first | exact HBZ.out | refine Below.setCell ?_ HG.out _ | refine below_drewN ?_ _)))
      cases b1
      · clear hall
        go_wp2
        exact bodyPost_ret (v := .tuple #[profV nilS nilS nilS, .bool false]) (by simp [results, Tryd.results23, go_sem, *]) rfl (ProfRd.no HNO.out (by repeat (first | exact HBZ.out | refine Below.setCell ?_ HG.out _ | refine below_drewN ?_ _)))
      cases b2
      · clear hall
        go_wp2
        exact bodyPost_ret (v := .tuple #[profV nilS nilS nilS, .bool false]) (by simp [results, Tryd.results23, go_sem, *]) rfl (ProfRd.no HNO.out (by repeat (first | exact HBZ.out | refine Below.setCell ?_ HG.out _ | refine below_drewN ?_ _)))
      · exact absurd rfl hall
    case pos =>
      simp only [Bool.and_eq_true, Option.isSome_iff_exists] at hall
      obtain ⟨⟨⟨x0, h0⟩, x1, h1⟩, x2, h2⟩ := hall
      rw [h0] at O0
      rw [h1] at O1
      rw [h2] at O2
      rw [h0, h1, h2]
      replace O0 := Lib.hid (show OF _ w4 u0 x0 from O0.out)
      replace O1 := Lib.hid (show OF _ w4 u1 x1 from O1.out)
      replace O2 := Lib.hid (show OF _ w4 u2 x2 from O2.out)
      have R0 := RF_of_own O0.out (by have := numsOf_len h0; omega)
      have R1 := RF_of_own O1.out (by have := numsOf_len h1; omega)
      have R2 := RF_of_own O2.out (by have := numsOf_len h2; omega)
      have HPO := Lib.hid (profOf_three (H3.out.trans (numsAll_yes h0 h1 h2)))
      have HPA : Hid (Parts (g + 1) w4 [u0, u1, u2] [x0, x1, x2]) := by
        have z1 := hb1.out
        have z2 := hb2.out
        have z3 := HBB.out
        refine ⟨OF_leN O0.out (by omega), fun u hu => ?_, OF_leN O1.out (by omega), fun u hu => ?_, OF_leN O2.out (by omega), fun u hu => by simp at hu, trivial⟩
        · rcases List.mem_cons.1 hu with rfl | hu
          · exact D01.out
          · obtain rfl : u = u2 := by simpa using hu
            exact D02.out
        · obtain rfl : u = u2 := by simpa using hu
          exact D12.out
      have HGV := Lib.hid (s_l02Give u0 u1 u2 x0 x1 x2 w4 R0 R1 R2)
      clear h0 h1 h2 H3 O0 O1 O2 D01 D02 D12 HB3 hb1 hb2 HBB c0 c1 c2 hs
      dsimp only [Option.isSome_some]
      obtain ⟨q0, e0, rfl, -, -⟩ := R0
      obtain ⟨q1, e1, rfl, -, -⟩ := R1
      obtain ⟨q2, e2, rfl, -, -⟩ := R2
      cases hok : profOk x0 x1 x2
      · have HNO : Hid (profOf t = none) := by show _ = _; rw [HPO.out, hok]; rfl
        rw [hok] at HGV
        clear hok HPO HPA
        go_wp2_with fail
        refine HGV.out.mono ?_
        rintro e' w5 ⟨rfl, hb⟩
        replace HBZ := Lib.hid (below_step (Nat.le_refl _) HBZ.out hb)
        have hs : ∀ j, w5.frozen? ⟨g, j, none⟩ = false := fun j => (hb.frozen (p := ⟨g, j, none⟩) (show g < _ from block_lt_of_cell HA4.out.1)).trans (HS4.out j)
        obtain ⟨c0, c1, c2⟩ := HA4.out.below hb
        clear hb HGV
        go_wp2
        exact bodyPost_ret (v := .tuple #[profV nilS nilS nilS, .bool false]) (by simp [results, Tryd.results23, go_sem, *]) rfl (ProfRd.no HNO.out (by repeat (first | exact HBZ.out | refine Below.setCell ?_ HG.out _ | refine below_drewN ?_ _)))
      · have HYE : Hid (profOf t = some (x0, x1, x2)) := by show _ = _; rw [HPO.out, hok]; rfl
        rw [hok] at HGV
        clear hok HPO
        go_wp2_with fail
        refine HGV.out.mono ?_
        rintro e' w5 ⟨rfl, hb⟩
        replace HBZ := Lib.hid (below_step (Nat.le_refl _) HBZ.out hb)
        replace HPA := Lib.hid (HPA.out.below hb)
        have hs : ∀ j, w5.frozen? ⟨g, j, none⟩ = false := fun j => (hb.frozen (p := ⟨g, j, none⟩) (show g < _ from block_lt_of_cell HA4.out.1)).trans (HS4.out j)
        obtain ⟨c0, c1, c2⟩ := HA4.out.below hb
        clear hb HGV
        go_wp2
        exact bodyPost_ret (v := .tuple #[profV (.slice q0 x0.length e0) (.slice q1 x1.length e1) (.slice q2 x2.length e2), .bool true]) (by simp [results, Tryd.results23, go_sem, *]) rfl (ProfRd.ok HYE.out (Parts_set3 HPA.out (Nat.lt_succ_self g) (Nat.le_succ_of_le HG.out) _ _ _) (by repeat (first | exact HBZ.out | refine Below.setCell ?_ HG.out _ | refine below_drewN ?_ _)))
set_option maxHeartbeats 1000000 in
theorem s_ReadProfile (t : ByteArray) (hs : t.size ≤ 1048576) (w : World) : Calls Tryd.prog 9 #[.string t] w (ProfRd t w) := by
  have HN := Lib.hid (fun W => s_l08ReadProfile t hs W)
  clear hs
  go_enter Tryd.func9, Tryd.ntmps9
  go_wp2_with fail
  obtain ⟨w0, hw0⟩ : ∃ w0, w0 = w.alloc (.cells #[nilS, nilS, nilS] 31) := ⟨_, rfl⟩
  have HB : Hid (Below w.heap.size w w0) := by rw [hw0]; exact (by repeat (first | exact Below.refl _ _ | assumption | refine below_drewN ?_ _ | refine below_alloc (Nat.le_refl _) ?_ _ | (refine Below.setCell ?_ (by first | exact Nat.le_refl _ | (simp; done) | (simp; omega) | omega) _) | (refine below_step (Nat.le_refl _) ?_ (by assumption))))
  have HA : Hid (ProfAt w0 w.heap.size nilS nilS nilS) := by rw [hw0]; exact prof_top w _ rfl _ _ _ _
  have HS : Hid (∀ j, w0.frozen? ⟨w.heap.size, j, none⟩ = false) := by rw [hw0]; exact softR w _ rfl _ _
  rw [← hw0]
  clear hw0
  refine (HN.out w0).mono ?_
  rintro e' w1 ⟨u0, u1, u2, rfl, hp, hb⟩
  obtain ⟨g, hg⟩ : ∃ g, g = w.heap.size := ⟨_, rfl⟩
  have HBZ := Lib.hid (below_step (Nat.le_refl _) HB.out hb)
  have HA1 := Lib.hid (HA.out.below hb)
  have hs : ∀ j, w1.frozen? ⟨g, j, none⟩ = false := fun j => (hb.frozen (p := ⟨g, j, none⟩) (show g < _ from by rw [hg]; exact block_lt_of_cell HA.out.1)).trans (by rw [hg]; exact HS.out j)
  have hg0 : g + 1 ≤ w0.heap.size := by rw [hg]; exact block_lt_of_cell HA.out.1
  have HP := Lib.hid (Parts_le hg0 hp)
  rw [← hg] at HA1
  rw [← hg]
  have HG : Hid (w.heap.size ≤ g) := by show _ ≤ _; omega
  obtain ⟨c0, c1, c2⟩ := HA1.out
  clear hg hg0 hb hp HN HB HA HS HA1
  cases hpo : profOf t with
  | none =>
    have HNO := Lib.hid hpo
    rw [hpo] at HP
    obtain ⟨q0, e0, rfl, -, -⟩ := RF_of_own HP.out.1 (by simp)
    obtain ⟨q1, e1, rfl, -, -⟩ := RF_of_own HP.out.2.2.1 (by simp)
    obtain ⟨q2, e2, rfl, -, -⟩ := RF_of_own HP.out.2.2.2.2.1 (by simp)
    clear hpo
    dsimp only [Option.isSome_none]
    go_wp2
    exact bodyPost_ret (v := .tuple #[profV (.slice q0 0 e0) (.slice q1 0 e1) (.slice q2 0 e2), .bool false]) (by simp [results, Tryd.results9, go_sem, *]) rfl ⟨_, _, _, by rw [HNO.out]; rfl, by rw [HNO.out]; exact Parts_set3 HP.out (Nat.lt_succ_self g) (Nat.le_succ_of_le HG.out) _ _ _, by repeat (first | exact HBZ.out | refine Below.setCell ?_ HG.out _ | refine below_drewN ?_ _)⟩
  | some x =>
    obtain ⟨a, l, d⟩ := x
    have HYE := Lib.hid hpo
    rw [hpo] at HP
    have hfew := profOf_few hpo
    obtain ⟨q0, e0, rfl, -, -⟩ := RF_of_own HP.out.1 (by omega)
    obtain ⟨q1, e1, rfl, -, -⟩ := RF_of_own HP.out.2.2.1 (by omega)
    obtain ⟨q2, e2, rfl, -, -⟩ := RF_of_own HP.out.2.2.2.2.1 (by omega)
    clear hpo hfew
    dsimp only [Option.isSome_some]
    go_wp2
    exact bodyPost_ret (v := .tuple #[profV (.slice q0 a.length e0) (.slice q1 l.length e1) (.slice q2 d.length e2), .bool true]) (by simp [results, Tryd.results9, go_sem, *]) rfl (ProfRd.ok HYE.out (Parts_set3 HP.out (Nat.lt_succ_self g) (Nat.le_succ_of_le HG.out) _ _ _) (by repeat (first | exact HBZ.out | refine Below.setCell ?_ HG.out _ | refine below_drewN ?_ _)))
end Go.Proofs.YtpkkgfjjnggijaaDoor
