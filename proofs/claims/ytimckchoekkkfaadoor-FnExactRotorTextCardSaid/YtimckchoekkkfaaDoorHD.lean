/- Walks: the text of air. -/
import Derived.Test.YtimckchoekkkfaaDoorHC
import Derived.Test.YtimckchoekkkfaaDoorB
import Derived.Deep.RegionHeld3
namespace Go.Proofs.YtimckchoekkkfaaDoor
set_option linter.unusedSimpArgs false
set_option linter.unusedVariables false
open Go.RowKit Go.Fl Go.Lib

/-- From lo to hi. -/
def fromTo (x lo hi : Nat) : Bool := fge .f32 x lo && fle .f32 x hi
theorem s_l04Share (x : Nat) (w : World) : Calls Tryd.prog 58 #[.float .f32 x] w fun e w' => e = .returned (.bool (fromTo x 0 1065353216)) ∧ ∃ n, w' = w.drewN n := by
  go_enter Tryd.func58, Tryd.ntmps58
  go_wp2
  all_goals
    go_ret
    exact ⟨by simp_all [fromTo, fge, fle], 0, rfl⟩
theorem i_isFromTo (x lo hi : Nat) (w : World) : Calls Tryd.prog 62 #[.float .f32 x, .float .f32 lo, .float .f32 hi] w fun e w' => e = .returned (.bool (fromTo x lo hi)) ∧ ∃ n, w' = w.drewN n := by
  go_enter Tryd.func62, Tryd.ntmps62
  go_wp2
  all_goals
    go_ret
    exact ⟨by simp_all [fromTo, fge, fle], 0, rfl⟩
theorem hcell_alloc {w : World} {a : Addr} {v : Value} (h : w.cell? a = some v) (o : Obj) : (w.alloc o).cell? a = some v := (Below.cell (show Below w.heap.size w (w.alloc o) from below_alloc (Nat.le_refl _) (Below.refl _ _) o) (p := a) (block_lt_of_cell h)).trans h
theorem hcell_below {w w' : World} {a : Addr} {v : Value} (h : w.cell? a = some v) (hb : Below w.heap.size w w') : w'.cell? a = some v := (hb.cell (p := a) (block_lt_of_cell h)).trans h
abbrev air (a b c d : Nat) : Value := .agg #[.float .f32 a, .float .f32 b, .float .f32 c, .float .f32 d]
def airOk (a b c d : Nat) : Bool := above a && above b && least c && fromTo d 0 1065353216
def AirAt (w : World) (g : Nat) (a b c d : Nat) : Prop := w.cell? ⟨g, 0, none⟩ = some (.float .f32 a) ∧ w.cell? ⟨g, 1, none⟩ = some (.float .f32 b) ∧ w.cell? ⟨g, 2, none⟩ = some (.float .f32 c) ∧ w.cell? ⟨g, 3, none⟩ = some (.float .f32 d)
theorem air_top (w : World) (k : Nat) (hk : k = w.heap.size) (a b c d : Nat) (t : TypeId) : AirAt (w.alloc (.cells #[.float .f32 a, .float .f32 b, .float .f32 c, .float .f32 d] t)) k a b c d := by
  subst hk
  refine ⟨?_, ?_, ?_, ?_⟩ <;> (rw [cell_of_row _ _ _ _ t (0, 0) (heap_alloc_new w _)]; rfl)
theorem AirAt.below {w w' : World} {g a b c d : Nat} (h : AirAt w g a b c d) (hb : Below w.heap.size w w') : AirAt w' g a b c d := ⟨hcell_below h.1 hb, hcell_below h.2.1 hb, hcell_below h.2.2.1 hb, hcell_below h.2.2.2 hb⟩
theorem RF_top4 (w : World) (k : Nat) (hk : k = w.heap.size) (a b c d : Nat) (t : TypeId) : RF (w.alloc (.cells #[.float .f32 a, .float .f32 b, .float .f32 c, .float .f32 d] t)) (.slice (some ⟨k, 0, none⟩) 4 4) [a, b, c, d] := RF_top w k hk [a, b, c, d] t (by simp)
theorem Bd4 {a b c d : Nat} (ha : a < 4294967296) (hb : b < 4294967296) (hc : c < 4294967296) (hd : d < 4294967296) : Bd [a, b, c, d] := fun x hx => by
  simp only [List.mem_cons, List.not_mem_nil, or_false] at hx
  rcases hx with rfl | rfl | rfl | rfl <;> assumption
/-- What a text's function gives. -/
def TextOut (good : Bool) (t : ByteArray) (w : World) (e : Ending) (w' : World) : Prop := e = .returned (.tuple #[.string (if good then t else ⟨#[]⟩), .bool good]) ∧ Below w.heap.size w w'
theorem TextOut.no {good : Bool} {t : ByteArray} {w w' : World} (h : good = false) (hb : Below w.heap.size w w') : TextOut good t w (.returned (.tuple #[.string ⟨#[]⟩, .bool false])) w' := by
  subst h; exact ⟨rfl, hb⟩
theorem TextOut.ok {good : Bool} {t : ByteArray} {w w' : World} (h : good = true) (hb : Below w.heap.size w w') : TextOut good t w (.returned (.tuple #[.string t, .bool true])) w' := by
  subst h; exact ⟨rfl, hb⟩
theorem s_l04Is (g a b c d : Nat) (w : World) (h : AirAt w g a b c d) : Calls Tryd.prog 29 #[.pointer (some ⟨g, 0, none⟩)] w fun e w' => e = .returned (.bool (airOk a b c d)) ∧ ∃ n, w' = w.drewN n := by
  obtain ⟨h0, h1, h2, h3⟩ := h
  go_enter Tryd.func29, Tryd.ntmps29
  go_wp2_with (first | (go_at_call 56; refine (s_l02Above _ _).mono ?_; rintro e w' ⟨rfl, n, rfl⟩) | (go_at_call 57; refine (s_l02Least _ _).mono ?_; rintro e w' ⟨rfl, n, rfl⟩) | (go_at_call 58; refine (s_l04Share _ _).mono ?_; rintro e w' ⟨rfl, n, rfl⟩))
  all_goals
    go_ret
    exact ⟨by simp_all [airOk], _, rfl⟩
theorem s_l08Air (g a b c d : Nat) (w : World) (h : AirAt w g a b c d) (ha : a < 4294967296) (hb : b < 4294967296) (hc : c < 4294967296) (hd : d < 4294967296) : Calls Tryd.prog 30 #[.pointer (some ⟨g, 0, none⟩)] w fun e w' => e = .returned (.string (textB [a, b, c, d])) ∧ Below w.heap.size w w' := by
  obtain ⟨h0, h1, h2, h3⟩ := h
  have HBD := Lib.hid (Bd4 ha hb hc hd)
  clear ha hb hc hd
  go_enter Tryd.func30, Tryd.ntmps30
  go_wp2_with fail
  go_region_held3 (fun w' => w'.cell? ⟨g, 0, none⟩ = some (.float .f32 a) ∧ w'.cell? ⟨g, 1, none⟩ = some (.float .f32 b) ∧ w'.cell? ⟨g, 2, none⟩ = some (.float .f32 c) ∧ w'.cell? ⟨g, 3, none⟩ = some (.float .f32 d))
    ((show _ ∧ _; go_split_ands; refine ⟨?_, ?_, ?_, ?_⟩ <;> (repeat (first | assumption | refine hcell_alloc ?_ _ | refine hcell_below ?_ (by assumption)))))
    ((go_at_call 59; refine (s_l01NText _ [a, b, c, d] _ (show RF (w.alloc (.cells #[.float .f32 a, .float .f32 b, .float .f32 c, .float .f32 d] 22)).drew (.slice (some ⟨w.heap.size, 0, none⟩) 4 4) [a, b, c, d] from RF_top4 w _ rfl a b c d _) HBD.out (by simp)).mono ?_; rintro e w1 ⟨rfl, hb1⟩))
  go_wp2
  go_ret
  exact ⟨rfl, below_step (Nat.le_refl _) (show Below w.heap.size w (w.alloc _).drew from below_drewN (below_alloc (Nat.le_refl _) (Below.refl _ _) _) 1) hb1⟩
theorem s_AirText (a b c d : Nat) (w : World) (ha : a < 4294967296) (hb : b < 4294967296) (hc : c < 4294967296) (hd : d < 4294967296) : Calls Tryd.prog 8 #[air a b c d] w (TextOut (airOk a b c d) (textB [a, b, c, d]) w) := by
  have HQ := Lib.hid (fun W k (hk : k = W.heap.size) t => s_l04Is k a b c d _ (air_top W k hk a b c d t))
  have HR := Lib.hid (fun W g (h : AirAt W g a b c d) => s_l08Air g a b c d W h ha hb hc hd)
  clear ha hb hc hd
  cases hok : airOk a b c d
  · have HOK := Lib.hid hok
    rw [hok] at HQ
    clear hok
    go_enter Tryd.func8, Tryd.ntmps8
    go_wp2_with (go_at_call 29; refine (HQ.out _ _ rfl _).mono ?_; rintro e w1 ⟨rfl, n, rfl⟩)
    go_ret2
    exact TextOut.no rfl (by repeat (first | exact Below.refl _ _ | assumption | refine below_drewN ?_ _ | refine below_alloc (Nat.le_refl _) ?_ _ | (refine Below.setCell ?_ (by first | exact Nat.le_refl _ | (simp; done) | (simp; omega) | omega) _) | (refine below_step (Nat.le_refl _) ?_ (by assumption))))
  · have HOK := Lib.hid hok
    rw [hok] at HQ
    clear hok
    go_enter Tryd.func8, Tryd.ntmps8
    go_wp2_with (first | (go_at_call 29; refine (HQ.out _ _ rfl _).mono ?_; rintro e w1 ⟨rfl, n, rfl⟩) | (go_at_call 30; refine (HR.out _ _ ((air_top _ _ rfl _ _ _ _ _).below (below_drewN (Below.refl _ _) n))).mono ?_; rintro e w2 ⟨rfl, hb2⟩))
    go_ret2
    exact TextOut.ok rfl (below_step (Nat.le_refl _) (below_drewN (below_alloc (Nat.le_refl _) (Below.refl _ _) _) n) hb2)
theorem i_ValidAir (a b c d : Nat) (w : World) : Calls Tryd.prog 31 #[air a b c d] w fun e w' => e = .returned (.bool (airOk a b c d)) ∧ Below w.heap.size w w' := by
  go_enter Tryd.func31, Tryd.ntmps31
  go_wp2_with (first | (go_at_call 60; refine (i_arePositive _ [a, b] _ (RF_top2 _ _ (by simp) _ _ _)).mono ?_; rintro e w' ⟨rfl, n, rfl⟩) | (go_at_call 61; refine (i_isLeast _ _).mono ?_; rintro e w' ⟨rfl, n, rfl⟩) | (go_at_call 62; refine (i_isFromTo _ _ _ _).mono ?_; rintro e w' ⟨rfl, n, rfl⟩))
  all_goals
    go_ret
    refine ⟨?_, by first | exact (by repeat (first | exact Below.refl _ _ | assumption | refine below_drewN ?_ _ | refine below_alloc (Nat.le_refl _) ?_ _ | (refine Below.setCell ?_ (by first | exact Nat.le_refl _ | (simp; done) | (simp; omega) | omega) _) | (refine below_step (Nat.le_refl _) ?_ (by assumption)))) | skip⟩
    simp_all [airOk, aboveAll]
end Go.Proofs.YtimckchoekkkfaaDoor
