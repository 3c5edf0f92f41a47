/- Walks: what valid air is. -/
import Derived.Test.YtpkkgfjjnggijaaGreatDoorC
import Derived.Test.YtpkkgfjjnggijaaGreatDoorB
import Derived.Deep.RegionHeld3
namespace Go.Proofs.YtpkkgfjjnggijaaGreatDoor
set_option linter.unusedSimpArgs false
set_option linter.unusedVariables false
open Go.RowKit Go.Fl Go.Lib

/-- From lo to hi. -/
def fromTo (x lo hi : Nat) : Bool := fge .f32 x lo && fle .f32 x hi
theorem i_isFromTo (x lo hi : Nat) (w : World) : Calls Tryz.prog 71 #[.float .f32 x, .float .f32 lo, .float .f32 hi] w fun e w' => e = .returned (.bool (fromTo x lo hi)) ∧ ∃ n, w' = w.drewN n := by
  go_enter Tryz.func71, Tryz.ntmps71
  go_wp2
  all_goals
    go_ret
    exact ⟨by simp_all [fromTo, fge, fle], 0, rfl⟩
theorem hcell_alloc {w : World} {a : Addr} {v : Value} (h : w.cell? a = some v) (o : Obj) : (w.alloc o).cell? a = some v := (Below.cell (show Below w.heap.size w (w.alloc o) from below_alloc (Nat.le_refl _) (Below.refl _ _) o) (p := a) (block_lt_of_cell h)).trans h
theorem hcell_below {w w' : World} {a : Addr} {v : Value} (h : w.cell? a = some v) (hb : Below w.heap.size w w') : w'.cell? a = some v := (hb.cell (p := a) (block_lt_of_cell h)).trans h
abbrev air (a b c d : Nat) : Value := .agg #[.float .f32 a, .float .f32 b, .float .f32 c, .float .f32 d]
def airOk (a b c d : Nat) : Bool := above a && above b && least c && fromTo d 0 1065353216
def AirAt (w : World) (g : Nat) (a b c d : Nat) : Prop := w.cell? ⟨g, 0, none⟩ = some (.float .f32 a) ∧ w.cell? ⟨g, 1, none⟩ = some (.float .f32 b) ∧ w.cell? ⟨g, 2, none⟩ = some (.float .f32 c) ∧ w.cell? ⟨g, 3, none⟩ = some (.float .f32 d)
theorem air_top (w : World) (k : Nat) (hk : k = w.heap.size) (a b c d : Nat) (t : TypeId) : AirAt (w.alloc (.cells #[.float .f32 a, .float .f32 b, .float .f32 c, .float .f32 d] t)) k a b c d := by
  subst hk
  refine ⟨?_, ?_, ?_, ?_⟩ <;> (rw [cell_of_row _ _ _ _ t (0, 0) (heap_alloc_new w _)]; rfl)
theorem AirAt.below {w w' : World} {g a b c d : Nat} (h : AirAt w g a b c d) (hb : Below w.heap.size w w') : AirAt w' g a b c d := ⟨hcell_below h.1 hb, hcell_below h.2.1 hb, hcell_below h.2.2.1 hb, hcell_below h.2.2.2 hb⟩
theorem RF_top4 (w : World) (k : Nat) (hk : k = w.heap.size) (a b c d : Nat) (t : TypeId) : RF (w.alloc (.cells #[.float .f32 a, .float .f32 b, .float .f32 c, .float .f32 d] t)) (.slice (some ⟨k, 0, none⟩) 4 4) [a, b, c, d] := RF_top w k hk [a, b, c, d] t (by simp)
end Go.Proofs.YtpkkgfjjnggijaaGreatDoor
