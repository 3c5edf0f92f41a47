/- Walks: the text of a drive, the reference's. -/
import Derived.Test.YtimckchoekkkfaaDoorHGD
import Derived.StillTailTactics
namespace Go.Proofs.YtimckchoekkkfaaDoor
set_option linter.unusedSimpArgs false
set_option linter.unusedVariables false
open Go.RowKit Go.Fl Go.Lib Go.Tx

set_option maxRecDepth 100000 in
set_option maxHeartbeats 8000000 in
theorem s_l08Drive (g i d r l m s c e : Nat) (st : Int) (sp pi en : Nat) (w : World) (h : DrvAt w g i d r l m s c e st sp pi en) (hs0 : 0 ≤ st) (hs1 : st ≤ 4)
    (hb1 : Bd [i, d, r, l, m, s, c, e]) (hb2 : Bd [sp, pi, en]) : Calls Tryd.prog 34 #[.pointer (some ⟨g, 0, none⟩)] w fun e' w' => e' = .returned (.string (driveB i d r l m s c e st sp pi en)) ∧ Below w.heap.size w w' := by
  have HDR0 := Lib.hid h
  obtain ⟨hp, c8, c9, c10, c11⟩ := h
  obtain ⟨c0, c1, c2, c3, c4, c5, c6, c7⟩ := hp
  have H1 := Lib.hid (fun W v (h : RF W v [i, d, r, l, m, s, c, e]) => s_l01NText v _ W h hb1 (by simp))
  have H2 := Lib.hid (fun W v (h : RF W v [sp, pi, en]) => s_l01NText v _ W h hb2 (by simp))
  have H3 := Lib.hid (fun W => s_l01Dec st W hs0 (by omega))
  have z1 := textB_size [i, d, r, l, m, s, c, e]
  have z2 := textB_size [sp, pi, en]
  have z3 := decB_le hs0 hs1
  have HFIN : Hid (driveB i d r l m s c e st sp pi en = textB [i, d, r, l, m, s, c, e] ++ ⟨#[59]⟩ ++ decB st ++ ⟨#[59]⟩ ++ textB [sp, pi, en]) := rfl
  generalize textB [i, d, r, l, m, s, c, e] = T1 at *
  generalize textB [sp, pi, en] = T2 at *
  generalize decB st = D at *
  simp only [List.length_cons, List.length_nil] at z1 z2
  have q1 : ¬ 9223372036854775807 < T1.size + 1 := by omega
  have q2 : ¬ 9223372036854775807 < T1.size + 1 + D.size := by omega
  have q3 : ¬ 9223372036854775807 < T1.size + 1 + D.size + 1 := by omega
  have q4 : ¬ 9223372036854775807 < T1.size + 1 + D.size + 1 + T2.size := by omega
  clear hs0 hs1 hb1 hb2 z1 z2 z3
  go_enter Tryd.func34, Tryd.ntmps34
  go_wp2_with fail
  go_still_tail 32, (by kernel_rfl)
  change wpList _ _ _ _ _ w.drew
  go_wp2_with (go_at_call 59; refine (H1.out _ _ (show RF (w.drew.alloc (.cells #[.float .f32 i, .float .f32 d, .float .f32 r, .float .f32 l, .float .f32 m, .float .f32 s, .float .f32 c, .float .f32 e] 22)) (.slice (some ⟨w.heap.size, 0, none⟩) 8 8) [i, d, r, l, m, s, c, e] from RF_top8 w.drew _ rfl _ _ _ _ _ _ _ _ _)).mono ?_; rintro e' w1 ⟨rfl, hb1⟩)
  have HB : Hid (Below w.heap.size w w1) := below_step (Nat.le_refl _) (Below_drewT (below_alloc (Nat.le_refl _) (Below.refl _ _) _)) hb1
  clear c8 c9 c10 c11
  have HDR := Lib.hid (HDR0.out.below HB.out)
  obtain ⟨-, c8, c9, c10, c11⟩ := HDR.out
  clear hb1 c0 c1 c2 c3 c4 c5 c6 c7
  go_wp2_with fail
  go_region_held3 (fun w' => w'.cell? ⟨g, 8, none⟩ = some (.int .i64 st) ∧ w'.cell? ⟨g, 9, none⟩ = some (.float .f32 sp) ∧ w'.cell? ⟨g, 10, none⟩ = some (.float .f32 pi) ∧ w'.cell? ⟨g, 11, none⟩ = some (.float .f32 en))
    ((refine (HDR.out.below ?_).2; repeat (first | with_reducible exact Below.refl _ _ | with_reducible refine Below_drewT ?_ | with_reducible refine below_alloc (Nat.le_refl _) ?_ _ | with_reducible refine below_step (Nat.le_refl _) ?_ (by with_reducible assumption))))
    (first
      | ((go_at_call 67; refine (H3.out _).mono ?_; rintro e' w2 ⟨rfl, hb2⟩))
      | ((go_at_call 59; refine (H2.out _ _ ?_).mono ?_; (focus (repeat (first | with_reducible exact RF_top3 _ _ rfl _ _ _ _ | with_reducible refine RF_drew ?_ | with_reducible refine RF_below ?_ (by with_reducible assumption)))); rintro e' w3 ⟨rfl, hb3⟩)))
  all_goals
    go_wp2
    go_ret
    refine ⟨by rw [HFIN.out]; rfl, ?_⟩
    repeat (first | with_reducible exact HB.out | with_reducible refine Below_drewT ?_ | with_reducible refine below_alloc (Nat.le_refl _) ?_ _ | with_reducible refine below_step (Nat.le_refl _) ?_ (by with_reducible assumption))
end Go.Proofs.YtimckchoekkkfaaDoor
