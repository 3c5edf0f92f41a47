/- Walks: the same cycles, a pair. -/
import Derived.Test.YtagnblklgbhopaaE
import Derived.Test.YtagnblklgbhopaaU
namespace Go.Proofs.Ytagnblklgbhopaa
set_option linter.unusedSimpArgs false
set_option linter.unusedVariables false
open Go.RowKit Go.Fl

def sameCyc (c d : Cyc) : Bool := same32 c.lo d.lo && same32 c.hi d.hi && (c.wh == d.wh)
def CycWf (c : Cyc) : Prop := c.lo < 4294967296 ∧ c.hi < 4294967296
set_option maxHeartbeats 1000000 in
theorem i_SameCycles_1 (c d : Cyc) (w : World) (hc : CycWf c) (hd : CycWf d) : Calls Try.prog 33 #[cyc c, cyc d] w fun e w' => e = .returned (.bool (sameCyc c d)) ∧ Below w.heap.size w w' := by
  obtain ⟨lo, hi, wh⟩ := c
  obtain ⟨lo', hi', wh'⟩ := d
  obtain ⟨a1, a2⟩ := hc
  obtain ⟨b1, b2⟩ := hd
  simp only at a1 a2 b1 b2
  cases h1 : same32 lo lo' <;> cases h2 : same32 hi hi'
  all_goals
    have H1 := Lib.hid h1
    have H2 := Lib.hid h2
    clear h1 h2
    go_enter Try.func33, Try.ntmps33
    go_wp2_with (go_at_call 34; refine (i_SameNumber _ _ _ (by assumption) (by assumption)).mono ?_; rintro e w' ⟨rfl, n, rfl⟩; first | rw [H1.out] | rw [H2.out])
    go_ret
    exact ⟨by unfold sameCyc; simp only; rw [H1.out, H2.out]; rfl, (by repeat (first | exact Below.refl _ _ | assumption | refine below_drewN ?_ _ | refine below_alloc (Nat.le_refl _) ?_ _ | (refine Below.setCell ?_ (by first | exact Nat.le_refl _ | (simp; done) | (simp; omega) | omega) _) | (refine below_step (Nat.le_refl _) ?_ (by assumption))))⟩
end Go.Proofs.Ytagnblklgbhopaa
