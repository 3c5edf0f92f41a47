/- Walks: the other's text of a drive. -/
import Derived.Test.YtimckchoekkkfaaDoorHGD
import Derived.Test.YtimckchoekkkfaaDoorHFV
import Derived.Test.YtimckchoekkkfaaDoorHE
namespace Go.Proofs.YtimckchoekkkfaaDoor
set_option linter.unusedSimpArgs false
set_option linter.unusedVariables false
open Go.RowKit Go.Fl Go.Lib Go.Tx

theorem i_DecimalT (n : Int) (h0 : 0 ≤ n) (h1 : n ≤ 4) (w : World) : Calls Tryd.prog 38 #[.int .i64 n] w fun e w' => e = .returned (.string (decB n)) ∧ Below w.heap.size w w' := by
  obtain ⟨k, rfl⟩ : ∃ k : Nat, n = k := ⟨n.toNat, by omega⟩
  have hd := decB_small k
  have HD := Lib.hid hd
  clear hd
  go_enter Tryd.func38, Tryd.ntmps38
  go_wp2_with fail
  refine (Tryd.strconv_FormatInt_10_small k (by omega) _).mono ?_
  rintro e w' ⟨rfl, rfl⟩
  go_wp2
  go_ret
  exact ⟨by rw [← HD.out]; rfl, (by repeat (first | exact Below.refl _ _ | assumption | refine below_drewN ?_ _ | refine below_alloc (Nat.le_refl _) ?_ _ | (refine Below.setCell ?_ (by first | exact Nat.le_refl _ | (simp; done) | (simp; omega) | omega) _) | (refine below_step (Nat.le_refl _) ?_ (by assumption))))⟩
theorem i_numbersOf (i d r l m s c e : Nat) (w : World) : Calls Tryd.prog 37 #[plantV i d r l m s c e] w fun e' w' => e' = .returned (.slice (some ⟨w.heap.size + 1, 0, none⟩) 8 8) ∧ RF w' (.slice (some ⟨w.heap.size + 1, 0, none⟩) 8 8) [i, d, r, l, m, s, c, e] ∧ Below w.heap.size w w' := by
  go_enter Tryd.func37, Tryd.ntmps37
  go_wp2
  go_ret
  exact ⟨rfl, RF_top8 _ _ (by simp) _ _ _ _ _ _ _ _ _, (by repeat (first | exact Below.refl _ _ | assumption | refine below_drewN ?_ _ | refine below_alloc (Nat.le_refl _) ?_ _ | (refine Below.setCell ?_ (by first | exact Nat.le_refl _ | (simp; done) | (simp; omega) | omega) _) | (refine below_step (Nat.le_refl _) ?_ (by assumption))))⟩
set_option maxRecDepth 100000 in
set_option maxHeartbeats 8000000 in
theorem i_DriveText (i d r l m s c e : Nat) (st : Int) (sp pi en : Nat) (w : World) (hb1 : Bd [i, d, r, l, m, s, c, e]) (hb2 : Bd [sp, pi, en]) (ht : T64 w) :
    Calls Tryd.prog 13 #[drvV i d r l m s c e st sp pi en] w (TextOut (drvOk i d r l m s c e st sp pi en) (driveB i d r l m s c e st sp pi en) w) := by
  have HQ := Lib.hid (fun W => i_ValidDrive i d r l m s c e st sp pi en W)
  cases hok : drvOk i d r l m s c e st sp pi en
  · rw [hok] at HQ
    clear hok
    go_enter Tryd.func13, Tryd.ntmps13
    go_wp2_with (go_at_call 36; refine (HQ.out _).mono ?_; rintro e w1 ⟨rfl, hb⟩)
    go_ret2
    exact TextOut.no rfl (by repeat (first | exact Below.refl _ _ | assumption | refine below_drewN ?_ _ | refine below_alloc (Nat.le_refl _) ?_ _ | (refine Below.setCell ?_ (by first | exact Nat.le_refl _ | (simp; done) | (simp; omega) | omega) _) | (refine below_step (Nat.le_refl _) ?_ (by assumption))))
  · have hst : 0 ≤ st ∧ st ≤ 4 := by
      unfold drvOk at hok
      simp only [Bool.and_eq_true, inB_iff] at hok
      exact hok.1.1.1.2
    have H1 := Lib.hid (fun W v (h : RF W v [i, d, r, l, m, s, c, e]) (ht : T64 W) => i_numbers v _ W h hb1 (by simp) ht)
    have H2 := Lib.hid (fun W v (h : RF W v [sp, pi, en]) (ht : T64 W) => i_numbers v _ W h hb2 (by simp) ht)
    have H3 := Lib.hid (fun W => i_DecimalT st hst.1 hst.2 W)
    have H4 := Lib.hid (fun W => i_numbersOf i d r l m s c e W)
    have z1 := textB_size [i, d, r, l, m, s, c, e]
    have z2 := textB_size [sp, pi, en]
    have z3 := decB_le hst.1 hst.2
    have HFIN : Hid (driveB i d r l m s c e st sp pi en = textB [i, d, r, l, m, s, c, e] ++ ⟨#[59]⟩ ++ decB st ++ ⟨#[59]⟩ ++ textB [sp, pi, en]) := rfl
    generalize textB [i, d, r, l, m, s, c, e] = T1 at *
    generalize textB [sp, pi, en] = T2 at *
    generalize decB st = D at *
    simp only [List.length_cons, List.length_nil] at z1 z2
    have q1 : ¬ 9223372036854775807 < T1.size + 1 := by omega
    have q2 : ¬ 9223372036854775807 < T1.size + 1 + D.size := by omega
    have q3 : ¬ 9223372036854775807 < T1.size + 1 + D.size + 1 := by omega
    have q4 : ¬ 9223372036854775807 < T1.size + 1 + D.size + 1 + T2.size := by omega
    rw [hok] at HQ
    have HT := Lib.hid ht
    clear hok hst hb1 hb2 z1 z2 z3 ht
    go_enter Tryd.func13, Tryd.ntmps13
    go_wp2_with fail
    refine (HQ.out _).mono ?_
    rintro e' w1 ⟨rfl, hb⟩
    have HDR := Lib.hid ((drv_top w _ rfl i d r l m s c e st sp pi en 37).below hb)
    obtain ⟨⟨c0, c1, c2, c3, c4, c5, c6, c7⟩, c8, c9, c10, c11⟩ := HDR.out
    have HB := Lib.hid (show Below w.heap.size w w1 from below_step (Nat.le_refl _) (below_alloc (Nat.le_refl _) (Below.refl _ _) _) hb)
    have HTT := Lib.hid (T64_below HT.out HB.out)
    clear hb
    obtain ⟨g, hg⟩ : ∃ g, g = w.heap.size := ⟨_, rfl⟩
    rw [← hg] at HDR
    rw [← hg] at c0 c1 c2 c3 c4 c5 c6 c7 c8 c9 c10 c11
    rw [← hg]
    clear hg
    go_wp2_with fail
    go_region_held3 (fun w' => (w'.cell? ⟨g, 0, none⟩ = some (.float .f32 i) ∧ w'.cell? ⟨g, 1, none⟩ = some (.float .f32 d) ∧ w'.cell? ⟨g, 2, none⟩ = some (.float .f32 r) ∧ w'.cell? ⟨g, 3, none⟩ = some (.float .f32 l) ∧ w'.cell? ⟨g, 4, none⟩ = some (.float .f32 m) ∧ w'.cell? ⟨g, 5, none⟩ = some (.float .f32 s) ∧ w'.cell? ⟨g, 6, none⟩ = some (.float .f32 c) ∧ w'.cell? ⟨g, 7, none⟩ = some (.float .f32 e)) ∧ w'.cell? ⟨g, 8, none⟩ = some (.int .i64 st) ∧ w'.cell? ⟨g, 9, none⟩ = some (.float .f32 sp) ∧ w'.cell? ⟨g, 10, none⟩ = some (.float .f32 pi) ∧ w'.cell? ⟨g, 11, none⟩ = some (.float .f32 en))
      ((refine HDR.out.below ?_; repeat (first | with_reducible exact Below.refl _ _ | with_reducible refine Below_drewT ?_ | with_reducible refine below_alloc (Nat.le_refl _) ?_ _ | with_reducible refine below_step (Nat.le_refl _) ?_ (by with_reducible assumption))))
      (first
        | ((go_at_call 37; refine (H4.out _).mono ?_; rintro e' w2 ⟨rfl, HRR, hb2⟩))
        | ((go_at_call 38; refine (H3.out _).mono ?_; rintro e' w4 ⟨rfl, hb4⟩))
        | ((go_at_call 32; refine (H1.out _ _ ?_ ?_).mono ?_; (focus (repeat (first | with_reducible refine RF_drew ?_ | with_reducible refine RF.alloc ?_ _ | exact HRR | (simpa using HRR; done) | with_reducible refine RF_below ?_ (by with_reducible assumption)))); (focus (refine T64_below HTT.out ?_; (repeat (first | with_reducible exact Below.refl _ _ | with_reducible refine Below_drewT ?_ | with_reducible refine below_alloc (Nat.le_refl _) ?_ _ | with_reducible refine below_step (Nat.le_refl _) ?_ (by with_reducible assumption))))); rintro e' w3 ⟨rfl, hb3⟩))
        | ((go_at_call 32; refine (H2.out _ _ ?_ ?_).mono ?_; (focus (repeat (first | with_reducible exact RF_top3 _ _ rfl _ _ _ _ | with_reducible refine RF_drew ?_ | with_reducible refine RF_below ?_ (by with_reducible assumption)))); (focus (refine T64_below HTT.out ?_; (repeat (first | with_reducible exact Below.refl _ _ | with_reducible refine Below_drewT ?_ | with_reducible refine below_alloc (Nat.le_refl _) ?_ _ | with_reducible refine below_step (Nat.le_refl _) ?_ (by with_reducible assumption))))); rintro e' w5 ⟨rfl, hb5⟩)))
    all_goals
      go_wp2
      go_ret2
      change TextOut true _ w (.returned (.tuple #[.string (T1 ++ ⟨#[59]⟩ ++ D ++ ⟨#[59]⟩ ++ T2), .bool true])) _
      rw [HFIN.out]
      refine TextOut.ok rfl ?_
      repeat (first | with_reducible exact HB.out | with_reducible refine Below_drewT ?_ | with_reducible refine below_alloc (Nat.le_refl _) ?_ _ | with_reducible refine below_step (Nat.le_refl _) ?_ (by with_reducible assumption))
end Go.Proofs.YtimckchoekkkfaaDoor
