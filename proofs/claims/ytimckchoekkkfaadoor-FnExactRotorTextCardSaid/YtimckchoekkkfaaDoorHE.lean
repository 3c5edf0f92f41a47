/- Walks: the text of air, the program's; the law's copies of air. -/
import Derived.Test.YtimckchoekkkfaaDoorHD
namespace Go.Proofs.YtimckchoekkkfaaDoor
set_option linter.unusedSimpArgs false
set_option linter.unusedVariables false
open Go.RowKit Go.Fl Go.Lib
theorem i_AirText (a b c d : Nat) (w : World) (ha : a < 4294967296) (hb : b < 4294967296) (hc : c < 4294967296) (hd : d < 4294967296) (ht : T64 w) : Calls Tryd.prog 10 #[air a b c d] w (TextOut (airOk a b c d) (textB [a, b, c, d]) w) := by
  have HQ := Lib.hid (fun W => i_ValidAir a b c d W)
  have HT := Lib.hid ht
  have HBD := Lib.hid (Bd4 ha hb hc hd)
  clear ha hb hc hd ht
  cases hok : airOk a b c d
  · rw [hok] at HQ
    clear hok
    go_enter Tryd.func10, Tryd.ntmps10
    go_wp2_with (go_at_call 31; refine (HQ.out _).mono ?_; rintro e w1 ⟨rfl, hb⟩)
    go_ret2
    exact TextOut.no rfl (by repeat (first | exact Below.refl _ _ | assumption | refine below_drewN ?_ _ | refine below_alloc (Nat.le_refl _) ?_ _ | (refine Below.setCell ?_ (by first | exact Nat.le_refl _ | (simp; done) | (simp; omega) | omega) _) | (refine below_step (Nat.le_refl _) ?_ (by assumption))))
  · rw [hok] at HQ
    clear hok
    go_enter Tryd.func10, Tryd.ntmps10
    go_wp2_with fail
    refine (HQ.out _).mono ?_
    rintro e w1 ⟨rfl, hb⟩
    obtain ⟨h0, h1, h2, h3⟩ := (air_top w _ rfl a b c d 27).below hb
    have HB := Lib.hid (show Below w.heap.size w w1 from below_step (Nat.le_refl _) (below_alloc (Nat.le_refl _) (Below.refl _ _) _) hb)
    have HTT := Lib.hid (T64_below HT.out HB.out)
    clear hb
    go_wp2_with (go_at_call 32; refine (i_numbers _ [a, b, c, d] _ (RF_top4 _ _ (by simp) _ _ _ _ _) HBD.out (by simp) (T64_below HTT.out (below_alloc (Nat.le_refl _) (Below.refl _ _) _))).mono ?_; rintro e w2 ⟨rfl, hb2⟩)
    go_ret2
    exact TextOut.ok rfl (below_step (Nat.le_refl _) (show Below w.heap.size w (w1.alloc _) from below_alloc (Nat.le_refl _) HB.out _) hb2)
theorem l_toAir (a b c d : Nat) (w : World) : Calls Tryd.prog 9 #[air a b c d] w fun e w' => e = .returned (air a b c d) ∧ Below w.heap.size w w' := by
  go_enter Tryd.func9, Tryd.ntmps9
  go_wp2
  exact bodyPost_ret (v := air a b c d) (by simp [results, Tryd.results9, go_sem]) rfl ⟨rfl, (by repeat (first | exact Below.refl _ _ | assumption | refine below_drewN ?_ _ | refine below_alloc (Nat.le_refl _) ?_ _ | (refine Below.setCell ?_ (by first | exact Nat.le_refl _ | (simp; done) | (simp; omega) | omega) _) | (refine below_step (Nat.le_refl _) ?_ (by assumption))))⟩
end Go.Proofs.YtimckchoekkkfaaDoor
