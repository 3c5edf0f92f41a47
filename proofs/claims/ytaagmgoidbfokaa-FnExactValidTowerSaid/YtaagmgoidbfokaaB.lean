/- Walks: towers. -/
import Derived.Test.YtaagmgoidbfokaaA
namespace Go.Proofs.Ytaagmgoidbfokaa
open Go.RowKit Go.Fl

/-- A valid tower: its mass, drag and stiffness. -/
def towerOk (m d s : Nat) : Bool := above m && above s && least d
/-- A tower as a value. -/
abbrev tow (m d s : Nat) : Value := .agg #[.float .f32 m, .float .f32 d, .float .f32 s]
/-- A tower in memory. -/
def TowAt (w : World) (b : Nat) (m d s : Nat) : Prop := w.cell? ⟨b, 0, none⟩ = some (.float .f32 m) ∧ w.cell? ⟨b, 1, none⟩ = some (.float .f32 d) ∧ w.cell? ⟨b, 2, none⟩ = some (.float .f32 s)

theorem s_l07Tower (b m d s : Nat) (w : World) (h : TowAt w b m d s) : Calls Try.prog 28 #[.pointer (some ⟨b, 0, none⟩)] w fun e w' => e = .returned (.bool (towerOk m d s)) ∧ ∃ n, w' = w.drewN n := by
  obtain ⟨h0, h1, h2⟩ := h
  go_enter Try.func28, Try.ntmps28
  go_wp2_with (first | (go_at_call 35; refine (s_l02Above _ _).mono ?_; rintro e w' ⟨rfl, n, rfl⟩) | (go_at_call 48; refine (s_l02Least _ _).mono ?_; rintro e w' ⟨rfl, n, rfl⟩))
  all_goals
    go_ret
    exact ⟨by simp_all [towerOk], _, rfl⟩
theorem tow_top (w : World) (k : Nat) (hk : k = w.heap.size) (m d s : Nat) (t : TypeId) : TowAt (w.alloc (.cells #[.float .f32 m, .float .f32 d, .float .f32 s] t)) k m d s := by
  subst hk
  refine ⟨?_, ?_, ?_⟩ <;> (rw [cell_of_row _ _ _ _ t (0, 0) (heap_alloc_new w _)]; rfl)
theorem TowAt.drewN {w : World} {b m d s : Nat} (h : TowAt w b m d s) (n : Nat) : TowAt (w.drewN n) b m d s := h
theorem TowAt.below {w w' : World} {b m d s B : Nat} (h : TowAt w b m d s) (hb : Below B w w') (hB : b < B) : TowAt w' b m d s := by
  obtain ⟨h0, h1, h2⟩ := h
  exact ⟨(hb.cell (p := ⟨b, 0, none⟩) hB).trans h0, (hb.cell (p := ⟨b, 1, none⟩) hB).trans h1, (hb.cell (p := ⟨b, 2, none⟩) hB).trans h2⟩
theorem RF_top (w : World) (k : Nat) (hk : k = w.heap.size) (xs : List Nat) (t : TypeId) (hl : xs.length ≤ 281474976710656) : RF (w.alloc (.cells (xs.map (Value.float .f32)).toArray t)) (.slice (some ⟨k, 0, none⟩) xs.length xs.length) xs := by
  subst hk
  refine ⟨_, _, rfl, hl, .inr ⟨_, _, rfl, fun j u h => ?_⟩⟩
  rw [Nat.zero_add, cell_of_row _ _ _ _ t (0, 0) (heap_alloc_new w _)]
  simpa using h
theorem RF_top1 (w : World) (k : Nat) (hk : k = w.heap.size) (a : Nat) (t : TypeId) : RF (w.alloc (.cells #[.float .f32 a] t)) (.slice (some ⟨k, 0, none⟩) 1 1) [a] := RF_top w k hk [a] t (by simp)
theorem RF_top2 (w : World) (k : Nat) (hk : k = w.heap.size) (a b : Nat) (t : TypeId) : RF (w.alloc (.cells #[.float .f32 a, .float .f32 b] t)) (.slice (some ⟨k, 0, none⟩) 2 2) [a, b] := RF_top w k hk [a, b] t (by simp)
theorem RF_top3 (w : World) (k : Nat) (hk : k = w.heap.size) (a b c : Nat) (t : TypeId) : RF (w.alloc (.cells #[.float .f32 a, .float .f32 b, .float .f32 c] t)) (.slice (some ⟨k, 0, none⟩) 3 3) [a, b, c] := RF_top w k hk [a, b, c] t (by simp)
theorem Sl.below {w w' : World} {v : Value} {n : Nat} {cs : List Value} (h : Sl w v n cs) (hs : cs ≠ [] ∨ True) {B : Nat} (hb : Below B w w') (hB : w.heap.size ≤ B) : Sl w' v n cs := by
  obtain ⟨p, cap, rfl, hm, hc⟩ := h
  refine ⟨p, cap, rfl, hm, ?_⟩
  rcases hc with h0 | ⟨b, off, rfl, hc⟩
  · exact .inl h0
  · refine .inr ⟨b, off, rfl, fun j u hj => ?_⟩
    have h1 := hc j u hj
    have h2 := block_lt_of_cell h1
    exact (hb.cell (p := ⟨b, off + j, none⟩) (Nat.lt_of_lt_of_le h2 hB)).trans h1
theorem RF.below {w w' : World} {v : Value} {xs : List Nat} (h : RF w v xs) {B : Nat} (hb : Below B w w') (hB : w.heap.size ≤ B) : RF w' v xs := Sl.below h (.inr trivial) hb hB
theorem Sl.alloc {w : World} {v : Value} {n : Nat} {cs : List Value} (h : Sl w v n cs) (o : Obj) : Sl (w.alloc o) v n cs := Sl.below h (.inr trivial) ((Below.refl w.heap.size w).alloc (Nat.le_refl _) o) (Nat.le_refl _)
theorem RF.alloc {w : World} {v : Value} {xs : List Nat} (h : RF w v xs) (o : Obj) : RF (w.alloc o) v xs := Sl.alloc h o
theorem s_ValidTower (m d s : Nat) (w : World) : Calls Try.prog 9 #[tow m d s] w fun e w' => e = .returned (.bool (towerOk m d s)) ∧ Below w.heap.size w w' := by
  go_enter Try.func9, Try.ntmps9
  go_wp2_with (go_at_call 28; refine (s_l07Tower _ m d s _ (tow_top _ _ (by simp) _ _ _ _)).mono ?_; rintro e w' ⟨rfl, n, rfl⟩)
  go_ret
  exact ⟨rfl, (by repeat (first | exact Below.refl _ _ | assumption | refine below_drewN ?_ _ | (refine Below.alloc ?_ (by first | exact Nat.le_refl _ | (simp; done) | (simp; omega) | omega) _) | (refine Below.setCell ?_ (by first | exact Nat.le_refl _ | (simp; done) | (simp; omega) | omega) _) | (refine below_step (Nat.le_refl _) ?_ (by assumption))))⟩
theorem i_ValidTower (m d s : Nat) (w : World) : Calls Try.prog 11 #[tow m d s] w fun e w' => e = .returned (.bool (towerOk m d s)) ∧ Below w.heap.size w w' := by
  go_enter Try.func11, Try.ntmps11
  go_wp2_with (first | (go_at_call 29; refine (i_arePositive _ [m, s] _ (RF_top2 _ _ (by simp) _ _ _)).mono ?_; rintro e w' ⟨rfl, n, rfl⟩) | (go_at_call 30; refine (i_isLeast _ _).mono ?_; rintro e w' ⟨rfl, n, rfl⟩))
  all_goals
    go_ret
    exact ⟨by simp_all [towerOk], (by repeat (first | exact Below.refl _ _ | assumption | refine below_drewN ?_ _ | (refine Below.alloc ?_ (by first | exact Nat.le_refl _ | (simp; done) | (simp; omega) | omega) _) | (refine Below.setCell ?_ (by first | exact Nat.le_refl _ | (simp; done) | (simp; omega) | omega) _) | (refine below_step (Nat.le_refl _) ?_ (by assumption))))⟩
theorem l_toTower (m d s : Nat) (w : World) : Calls Try.prog 10 #[tow m d s] w fun e w' => e = .returned (tow m d s) ∧ Below w.heap.size w w' := by
  go_enter Try.func10, Try.ntmps10
  go_wp2
  refine bodyPost_ret (v := tow m d s) (by simp [results, Try.results10, go_sem]) rfl ⟨rfl, (by repeat (first | exact Below.refl _ _ | assumption | refine below_drewN ?_ _ | (refine Below.alloc ?_ (by first | exact Nat.le_refl _ | (simp; done) | (simp; omega) | omega) _) | (refine Below.setCell ?_ (by first | exact Nat.le_refl _ | (simp; done) | (simp; omega) | omega) _) | (refine below_step (Nat.le_refl _) ?_ (by assumption))))⟩
end Go.Proofs.Ytaagmgoidbfokaa
