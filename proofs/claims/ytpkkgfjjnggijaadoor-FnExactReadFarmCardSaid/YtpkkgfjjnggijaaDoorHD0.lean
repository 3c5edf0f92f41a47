/- Walks: what valid air is. -/
import Derived.Test.YtpkkgfjjnggijaaDoorC
import Derived.Test.YtpkkgfjjnggijaaDoorB
import Derived.Deep.RegionHeld3
namespace Go.Proofs.YtpkkgfjjnggijaaDoor
set_option linter.unusedSimpArgs false
set_option linter.unusedVariables false
open Go.RowKit Go.Fl Go.Lib

/-- From lo to hi. -/
def fromTo (x lo hi : Nat) : Bool := fge .f32 x lo && fle .f32 x hi
theorem s_l04Share (x : Nat) (w : World) : Calls Tryd.prog 48 #[.float .f32 x] w fun e w' => e = .returned (.bool (fromTo x 0 1065353216)) ∧ ∃ n, w' = w.drewN n := by
  go_enter Tryd.func48, Tryd.ntmps48
  go_wp2
  all_goals
    go_ret
    exact ⟨by simp_all [fromTo, fge, fle], 0, rfl⟩
theorem i_isFromTo (x lo hi : Nat) (w : World) : Calls Tryd.prog 37 #[.float .f32 x, .float .f32 lo, .float .f32 hi] w fun e w' => e = .returned (.bool (fromTo x lo hi)) ∧ ∃ n, w' = w.drewN n := by
  go_enter Tryd.func37, Tryd.ntmps37
  go_wp2
  all_goals
    go_ret
    exact ⟨by simp_all [fromTo, fge, fle], 0, rfl⟩
theorem hcell_alloc {w : World} {a : Addr} {v : Value} (h : w.cell? a = some v) (o : Obj) : (w.alloc o).cell? a = some v := (Below.cell (show Below w.heap.size w (w.alloc o) from below_alloc (Nat.le_refl _) (Below.refl _ _) o) (p := a) (block_lt_of_cell h)).trans h
theorem hcell_below {w w' : World} {a : Addr} {v : Value} (h : w.cell? a = some v) (hb : Below w.heap.size w w') : w'.cell? a = some v := (hb.cell (p := a) (block_lt_of_cell h)).trans h
abbrev air (a b c d : Nat) : Value := .agg #[.float .f32 a, .float .f32 b, .float .f32 c, .float .f32 d]
def airOk (a b c d : Nat) : Bool := above a && above b && least c && fromTo d 0 1065353216
def AirAt (w : World) (g : Nat) (a b c d : Nat) : Prop := w.cell? ⟨g, 0, none⟩ = some (.float .f32 a) ∧ w.cell? ⟨g, 1, none⟩ = some (.float .f32 b) ∧ w.cell? ⟨g, 2, none⟩ = some (.float .f32 c) ∧ w.cell? ⟨g, 3, none⟩ = some (.float .f32 d)
theorem air_top (w : World) (k : Nat) (hk : k = w.heap.size) (a b c d : Nat) (t : TypeId) : AirAt (w.alloc (.cells #[.float .f32 a, .float .f32 b, .float .f32 c, .float .f32 d] t)) k a b c d := by
  subst hk
  refine ⟨?_, ?_, ?_, ?_⟩ <;> (rw [cell_of_row _ _ _ _ t (0, 0) (heap_alloc_new w _)]; rfl)
theorem AirAt.below {w w' : World} {g a b c d : Nat} (h : AirAt w g a b c d) (hb : Below w.heap.size w w') : AirAt w' g a b c d := ⟨hcell_below h.1 hb, hcell_below h.2.1 hb, hcell_below h.2.2.1 hb, hcell_below h.2.2.2 hb⟩
theorem RF_top4 (w : World) (k : Nat) (hk : k = w.heap.size) (a b c d : Nat) (t : TypeId) : RF (w.alloc (.cells #[.float .f32 a, .float .f32 b, .float .f32 c, .float .f32 d] t)) (.slice (some ⟨k, 0, none⟩) 4 4) [a, b, c, d] := RF_top w k hk [a, b, c, d] t (by simp)
theorem s_l04Is (g a b c d : Nat) (w : World) (h : AirAt w g a b c d) : Calls Tryd.prog 32 #[.pointer (some ⟨g, 0, none⟩)] w fun e w' => e = .returned (.bool (airOk a b c d)) ∧ ∃ n, w' = w.drewN n := by
  obtain ⟨h0, h1, h2, h3⟩ := h
  go_enter Tryd.func32, Tryd.ntmps32
  go_wp2_with (first | (go_at_call 46; refine (s_l02Above _ _).mono ?_; rintro e w' ⟨rfl, n, rfl⟩) | (go_at_call 47; refine (s_l02Least _ _).mono ?_; rintro e w' ⟨rfl, n, rfl⟩) | (go_at_call 48; refine (s_l04Share _ _).mono ?_; rintro e w' ⟨rfl, n, rfl⟩))
  all_goals
    go_ret
    exact ⟨by simp_all [airOk], _, rfl⟩
theorem i_ValidAir (a b c d : Nat) (w : World) : Calls Tryd.prog 21 #[air a b c d] w fun e w' => e = .returned (.bool (airOk a b c d)) ∧ Below w.heap.size w w' := by
  go_enter Tryd.func21, Tryd.ntmps21
  go_wp2_with (first | (go_at_call 35; refine (i_arePositive _ [a, b] _ (RF_top2 _ _ (by simp) _ _ _)).mono ?_; rintro e w' ⟨rfl, n, rfl⟩) | (go_at_call 36; refine (i_isLeast _ _).mono ?_; rintro e w' ⟨rfl, n, rfl⟩) | (go_at_call 37; refine (i_isFromTo _ _ _ _).mono ?_; rintro e w' ⟨rfl, n, rfl⟩))
  all_goals
    go_ret
    refine ⟨?_, by first | exact (by repeat (first | exact Below.refl _ _ | assumption | refine below_drewN ?_ _ | refine below_alloc (Nat.le_refl _) ?_ _ | (refine Below.setCell ?_ (by first | exact Nat.le_refl _ | (simp; done) | (simp; omega) | omega) _) | (refine below_step (Nat.le_refl _) ?_ (by assumption)))) | skip⟩
    simp_all [airOk, aboveAll]
end Go.Proofs.YtpkkgfjjnggijaaDoor
