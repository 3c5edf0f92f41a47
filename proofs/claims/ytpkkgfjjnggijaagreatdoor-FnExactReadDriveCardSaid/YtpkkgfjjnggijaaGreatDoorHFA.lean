/- Walks: what a valid drive is. -/
import Derived.Test.YtpkkgfjjnggijaaGreatDoorHD0
import Derived.Test.YtpkkgfjjnggijaaGreatDoorZ
namespace Go.Proofs.YtpkkgfjjnggijaaGreatDoor
set_option linter.unusedSimpArgs false
set_option linter.unusedVariables false
open Go.RowKit Go.Fl Go.Lib

theorem cmp_gt' (a b : Int) : (compare a b = .gt) ↔ b < a := by
  simp only [compare, compareOfLessAndEq]
  split
  · simp; omega
  · split
    · simp; omega
    · simp; omega
/-- What is greater than what is greater than nought is. -/
theorem above_trans {m l : Nat} (hl : above l = true) (hm : fin .f32 m = true) (h : fgt .f32 m l = true) : above m = true := by
  unfold above at *
  simp only [Bool.and_eq_true] at hl ⊢
  refine ⟨hm, ?_⟩
  obtain ⟨hl1, hl2⟩ := hl
  have hk : (K64 : Int) = 1074 := K64_is
  have hlp : Ieee.single.leastPlace = -149 := by decide
  have rz : Ieee.single.read 0 = .number false 0 (-149) := by decide
  unfold fin at hl1 hm
  change (match Ieee.single.read l with | .number .. => true | _ => false) = true at hl1
  change (match Ieee.single.read m with | .number .. => true | _ => false) = true at hm
  unfold fgt at h hl2 ⊢
  change ((Ieee.single.read m).order (Ieee.single.read l) == some .gt) = true at h
  change ((Ieee.single.read l).order (Ieee.single.read 0) == some .gt) = true at hl2
  change ((Ieee.single.read m).order (Ieee.single.read 0) == some .gt) = true
  cases h1 : Ieee.single.read l <;> rw [h1] at hl1 <;> try (cases hl1; done)
  cases h2 : Ieee.single.read m <;> rw [h2] at hm <;> try (cases hm; done)
  have g1 := read_least h1
  have g2 := read_least h2
  rw [order_sc h2 h1 K64 (by omega) (by omega)] at h
  rw [order_sc h1 rz K64 (by omega) (by omega)] at hl2
  rw [order_sc rfl rz K64 (by omega) (by omega)]
  simp only [beq_iff_eq, Option.some.injEq, cmp_gt'] at h hl2 ⊢
  omega
theorem above_fin {m : Nat} (h : above m = true) : fin .f32 m = true := by unfold above at h; simp at h; exact h.1

/-- Between bounds. -/
def inB (n lo hi : Int) : Bool := decide (lo ≤ n) && decide (n ≤ hi)
theorem inB_is (n lo hi : Int) : (decide (lo ≤ n) && decide (n ≤ hi)) = inB n lo hi := rfl
theorem inB_iff {n lo hi : Int} : inB n lo hi = true ↔ lo ≤ n ∧ n ≤ hi := by unfold inB; simp
abbrev plantV (i d r l m s c e : Nat) : Value := .agg #[.float .f32 i, .float .f32 d, .float .f32 r, .float .f32 l, .float .f32 m, .float .f32 s, .float .f32 c, .float .f32 e]
abbrev drvV (i d r l m s c e : Nat) (st : Int) (sp pi en : Nat) : Value := .agg #[.float .f32 i, .float .f32 d, .float .f32 r, .float .f32 l, .float .f32 m, .float .f32 s, .float .f32 c, .float .f32 e, .int .i64 st, .float .f32 sp, .float .f32 pi, .float .f32 en]
def plantOk (i d r l m s c e : Nat) : Bool := above i && least d && above r && above l && fin .f32 m && fgt .f32 m l && above s && fin .f32 c && fgt .f32 c s && above e
def drvOk (i d r l m s c e : Nat) (st : Int) (sp pi en : Nat) : Bool := plantOk i d r l m s c e && inB st 0 4 && least sp && fromTo pi 0 1065353216 && fin .f32 en
theorem plantOk_is (i d r l m s c e : Nat) : (aboveAll [i, r, l, m, s, c, e] && least d && fgt .f32 m l && fgt .f32 c s) = plantOk i d r l m s c e := by
  unfold plantOk aboveAll
  simp only [List.all_cons, List.all_nil, Bool.and_true]
  rw [Bool.eq_iff_iff]
  simp only [Bool.and_eq_true]
  constructor
  · rintro ⟨⟨⟨⟨h1, h2, h3, h4, h5, h6, h7⟩, h8⟩, h9⟩, h10⟩
    exact ⟨⟨⟨⟨⟨⟨⟨⟨⟨h1, h8⟩, h2⟩, h3⟩, above_fin h4⟩, h9⟩, h5⟩, above_fin h6⟩, h10⟩, h7⟩
  · rintro ⟨⟨⟨⟨⟨⟨⟨⟨⟨h1, h8⟩, h2⟩, h3⟩, h4⟩, h9⟩, h5⟩, h6⟩, h10⟩, h7⟩
    exact ⟨⟨⟨⟨h1, h2, h3, above_trans h3 h4 h9, h5, above_trans h5 h6 h10, h7⟩, h8⟩, h9⟩, h10⟩
def PlantAt (w : World) (g : Nat) (i d r l m s c e : Nat) : Prop := w.cell? ⟨g, 0, none⟩ = some (.float .f32 i) ∧ w.cell? ⟨g, 1, none⟩ = some (.float .f32 d) ∧ w.cell? ⟨g, 2, none⟩ = some (.float .f32 r) ∧ w.cell? ⟨g, 3, none⟩ = some (.float .f32 l) ∧
  w.cell? ⟨g, 4, none⟩ = some (.float .f32 m) ∧ w.cell? ⟨g, 5, none⟩ = some (.float .f32 s) ∧ w.cell? ⟨g, 6, none⟩ = some (.float .f32 c) ∧ w.cell? ⟨g, 7, none⟩ = some (.float .f32 e)
def DrvAt (w : World) (g : Nat) (i d r l m s c e : Nat) (st : Int) (sp pi en : Nat) : Prop := PlantAt w g i d r l m s c e ∧ w.cell? ⟨g, 8, none⟩ = some (.int .i64 st) ∧ w.cell? ⟨g, 9, none⟩ = some (.float .f32 sp) ∧ w.cell? ⟨g, 10, none⟩ = some (.float .f32 pi) ∧ w.cell? ⟨g, 11, none⟩ = some (.float .f32 en)
theorem PlantAt.below {w w' : World} {g i d r l m s c e : Nat} (h : PlantAt w g i d r l m s c e) (hb : Below w.heap.size w w') : PlantAt w' g i d r l m s c e := by
  obtain ⟨h0, h1, h2, h3, h4, h5, h6, h7⟩ := h
  exact ⟨hcell_below h0 hb, hcell_below h1 hb, hcell_below h2 hb, hcell_below h3 hb, hcell_below h4 hb, hcell_below h5 hb, hcell_below h6 hb, hcell_below h7 hb⟩
theorem DrvAt.below {w w' : World} {g i d r l m s c e : Nat} {st : Int} {sp pi en : Nat} (h : DrvAt w g i d r l m s c e st sp pi en) (hb : Below w.heap.size w w') : DrvAt w' g i d r l m s c e st sp pi en := by
  obtain ⟨h0, h1, h2, h3, h4⟩ := h
  exact ⟨h0.below hb, hcell_below h1 hb, hcell_below h2 hb, hcell_below h3 hb, hcell_below h4 hb⟩
theorem plant_top (w : World) (k : Nat) (hk : k = w.heap.size) (i d r l m s c e : Nat) (t : TypeId) : PlantAt (w.alloc (.cells #[.float .f32 i, .float .f32 d, .float .f32 r, .float .f32 l, .float .f32 m, .float .f32 s, .float .f32 c, .float .f32 e] t)) k i d r l m s c e := by
  subst hk
  refine ⟨?_, ?_, ?_, ?_, ?_, ?_, ?_, ?_⟩ <;> (rw [cell_of_row _ _ _ _ t (0, 0) (heap_alloc_new w _)]; rfl)
theorem drv_top (w : World) (k : Nat) (hk : k = w.heap.size) (i d r l m s c e : Nat) (st : Int) (sp pi en : Nat) (t : TypeId) : DrvAt (w.alloc (.cells #[.float .f32 i, .float .f32 d, .float .f32 r, .float .f32 l, .float .f32 m, .float .f32 s, .float .f32 c, .float .f32 e, .int .i64 st, .float .f32 sp, .float .f32 pi, .float .f32 en] t)) k i d r l m s c e st sp pi en := by
  subst hk
  refine ⟨⟨?_, ?_, ?_, ?_, ?_, ?_, ?_, ?_⟩, ?_, ?_, ?_, ?_⟩ <;> (rw [cell_of_row _ _ _ _ t (0, 0) (heap_alloc_new w _)]; rfl)
set_option maxHeartbeats 1000000 in
theorem RF_top7 (w : World) (k : Nat) (hk : k = w.heap.size) (i r l m s c e : Nat) (t : TypeId) : RF (w.alloc (.cells #[.float .f32 i, .float .f32 r, .float .f32 l, .float .f32 m, .float .f32 s, .float .f32 c, .float .f32 e] t)) (.slice (some ⟨k, 0, none⟩) 7 7) [i, r, l, m, s, c, e] := by
  have h := RF_top w k hk [i, r, l, m, s, c, e] t (by simp)
  simp only [List.map_cons, List.map_nil, List.length_cons, List.length_nil] at h
  exact h
theorem s_l00In (n lo hi : Int) (w : World) : Calls Tryz.prog 53 #[.int .i64 n, .int .i64 lo, .int .i64 hi] w fun e w' => e = .returned (.bool (inB n lo hi)) ∧ ∃ k, w' = w.drewN k := by
  cases h1 : decide (lo ≤ n)
  · have e : Hid (inB n lo hi = false) := by show _ = _; unfold inB; rw [h1]; rfl
    have h1' : ¬ lo ≤ n := by simpa using h1
    go_enter Tryz.func53, Tryz.ntmps53
    go_wp2
    go_ret
    exact ⟨by rw [e.out]; rfl, 0, rfl⟩
  · have h1' : lo ≤ n := by simpa using h1
    cases h2 : decide (n ≤ hi)
    · have e : Hid (inB n lo hi = false) := by show _ = _; unfold inB; rw [h1, h2]; rfl
      have h2' : ¬ n ≤ hi := by simpa using h2
      go_enter Tryz.func53, Tryz.ntmps53
      go_wp2
      go_ret
      exact ⟨by rw [e.out]; rfl, 0, rfl⟩
    · have e : Hid (inB n lo hi = true) := by show _ = _; unfold inB; rw [h1, h2]; rfl
      have h2' : n ≤ hi := by simpa using h2
      go_enter Tryz.func53, Tryz.ntmps53
      go_wp2
      go_ret
      exact ⟨by rw [e.out]; rfl, 0, rfl⟩
theorem i_withinT (n lo hi : Int) (w : World) : Calls Tryz.prog 66 #[.int .i64 n, .int .i64 lo, .int .i64 hi] w fun e w' => e = .returned (.bool (inB n lo hi)) ∧ ∃ k, w' = w.drewN k := by
  cases h1 : decide (lo ≤ n)
  · have e : Hid (inB n lo hi = false) := by show _ = _; unfold inB; rw [h1]; rfl
    have h1' : ¬ lo ≤ n := by simpa using h1
    go_enter Tryz.func66, Tryz.ntmps66
    go_wp2
    go_ret
    exact ⟨by rw [e.out]; rfl, 0, rfl⟩
  · have h1' : lo ≤ n := by simpa using h1
    cases h2 : decide (n ≤ hi)
    · have e : Hid (inB n lo hi = false) := by show _ = _; unfold inB; rw [h1, h2]; rfl
      have h2' : ¬ n ≤ hi := by simpa using h2
      go_enter Tryz.func66, Tryz.ntmps66
      go_wp2
      go_ret
      exact ⟨by rw [e.out]; rfl, 0, rfl⟩
    · have e : Hid (inB n lo hi = true) := by show _ = _; unfold inB; rw [h1, h2]; rfl
      have h2' : n ≤ hi := by simpa using h2
      go_enter Tryz.func66, Tryz.ntmps66
      go_wp2
      go_ret
      exact ⟨by rw [e.out]; rfl, 0, rfl⟩
theorem i_isState (n : Int) (w : World) : Calls Tryz.prog 69 #[.int .i64 n] w fun e w' => e = .returned (.bool (inB n 0 4)) ∧ ∃ k, w' = w.drewN k := by
  go_enter Tryz.func69, Tryz.ntmps69
  go_wp2_with fail
  refine (i_withinT _ _ _ _).mono ?_
  rintro e w' ⟨rfl, k, rfl⟩
  go_wp2
  refine bodyPost_ret (v := .bool (inB n 0 4)) ?_ ?_ ?_
  · simp [results, Tryz.results69, go_sem]
  · rfl
  · exact ⟨rfl, k, rfl⟩
end Go.Proofs.YtpkkgfjjnggijaaGreatDoor
