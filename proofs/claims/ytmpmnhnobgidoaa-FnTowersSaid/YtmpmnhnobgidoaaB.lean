/- Walks: towers. -/
import Derived.Test.YtmpmnhnobgidoaaA
namespace Go.Proofs.Ytmpmnhnobgidoaa
set_option linter.unusedSimpArgs false
set_option linter.unusedVariables false
open Go.RowKit Go.Fl

/-- A valid tower: its mass, drag and stiffness. -/
def towerOk (m d s : Nat) : Bool := above m && above s && least d
/-- A tower as a value. -/
abbrev tow (m d s : Nat) : Value := .agg #[.float .f32 m, .float .f32 d, .float .f32 s]
/-- A tower in memory. -/
def TowAt (w : World) (b : Nat) (m d s : Nat) : Prop := w.cell? ⟨b, 0, none⟩ = some (.float .f32 m) ∧ w.cell? ⟨b, 1, none⟩ = some (.float .f32 d) ∧ w.cell? ⟨b, 2, none⟩ = some (.float .f32 s)

theorem tow_top (w : World) (k : Nat) (hk : k = w.heap.size) (m d s : Nat) (t : TypeId) : TowAt (w.alloc (.cells #[.float .f32 m, .float .f32 d, .float .f32 s] t)) k m d s := by
  subst hk
  refine ⟨?_, ?_, ?_⟩ <;> (rw [cell_of_row _ _ _ _ t (0, 0) (heap_alloc_new w _)]; rfl)
theorem TowAt.drewN {w : World} {b m d s : Nat} (h : TowAt w b m d s) (n : Nat) : TowAt (w.drewN n) b m d s := h
theorem TowAt.below {w w' : World} {b m d s B : Nat} (h : TowAt w b m d s) (hb : Below B w w') (hB : b < B) : TowAt w' b m d s := by
  obtain ⟨h0, h1, h2⟩ := h
  exact ⟨(hb.cell (p := ⟨b, 0, none⟩) hB).trans h0, (hb.cell (p := ⟨b, 1, none⟩) hB).trans h1, (hb.cell (p := ⟨b, 2, none⟩) hB).trans h2⟩
theorem RF_top (w : World) (k : Nat) (hk : k = w.heap.size) (xs : List Nat) (t : TypeId) (hl : xs.length ≤ 281474976710656) : RF (w.alloc (.cells (xs.map (Value.float .f32)).toArray t)) (.slice (some ⟨k, 0, none⟩) xs.length xs.length) xs := by
  subst hk
  refine ⟨_, _, rfl, hl, .inr ⟨_, _, rfl, fun j u h => ?_⟩⟩
  rw [Nat.zero_add, cell_of_row _ _ _ _ t (0, 0) (heap_alloc_new w _)]
  simpa using h
theorem RF_top1 (w : World) (k : Nat) (hk : k = w.heap.size) (a : Nat) (t : TypeId) : RF (w.alloc (.cells #[.float .f32 a] t)) (.slice (some ⟨k, 0, none⟩) 1 1) [a] := RF_top w k hk [a] t (by simp)
theorem RF_top2 (w : World) (k : Nat) (hk : k = w.heap.size) (a b : Nat) (t : TypeId) : RF (w.alloc (.cells #[.float .f32 a, .float .f32 b] t)) (.slice (some ⟨k, 0, none⟩) 2 2) [a, b] := RF_top w k hk [a, b] t (by simp)
theorem RF_top3 (w : World) (k : Nat) (hk : k = w.heap.size) (a b c : Nat) (t : TypeId) : RF (w.alloc (.cells #[.float .f32 a, .float .f32 b, .float .f32 c] t)) (.slice (some ⟨k, 0, none⟩) 3 3) [a, b, c] := RF_top w k hk [a, b, c] t (by simp)
theorem Sl.below {w w' : World} {v : Value} {n : Nat} {cs : List Value} (h : Sl w v n cs) (hs : cs ≠ [] ∨ True) {B : Nat} (hb : Below B w w') (hB : w.heap.size ≤ B) : Sl w' v n cs := by
  obtain ⟨p, cap, rfl, hm, hc⟩ := h
  refine ⟨p, cap, rfl, hm, ?_⟩
  rcases hc with h0 | ⟨b, off, rfl, hc⟩
  · exact .inl h0
  · refine .inr ⟨b, off, rfl, fun j u hj => ?_⟩
    have h1 := hc j u hj
    have h2 := block_lt_of_cell h1
    exact (hb.cell (p := ⟨b, off + j, none⟩) (Nat.lt_of_lt_of_le h2 hB)).trans h1
theorem RF.below {w w' : World} {v : Value} {xs : List Nat} (h : RF w v xs) {B : Nat} (hb : Below B w w') (hB : w.heap.size ≤ B) : RF w' v xs := Sl.below h (.inr trivial) hb hB
theorem Sl.alloc {w : World} {v : Value} {n : Nat} {cs : List Value} (h : Sl w v n cs) (o : Obj) : Sl (w.alloc o) v n cs := Sl.below h (.inr trivial) ((Below.refl w.heap.size w).alloc (Nat.le_refl _) o) (Nat.le_refl _)
theorem RF.alloc {w : World} {v : Value} {xs : List Nat} (h : RF w v xs) (o : Obj) : RF (w.alloc o) v xs := Sl.alloc h o
theorem i_ValidTower (m d s : Nat) (w : World) : Calls Try.prog 30 #[tow m d s] w fun e w' => e = .returned (.bool (towerOk m d s)) ∧ Below w.heap.size w w' := by
  go_enter Try.func30, Try.ntmps30
  go_wp2_with (first | (go_at_call 57; refine (i_arePositive _ [m, s] _ (RF_top2 _ _ (by simp) _ _ _)).mono ?_; rintro e w' ⟨rfl, n, rfl⟩) | (go_at_call 70; refine (i_isLeast _ _).mono ?_; rintro e w' ⟨rfl, n, rfl⟩))
  all_goals
    go_ret
    exact ⟨(by cases hb0 : above m <;> cases hb1 : above s <;> cases hb2 : least d <;> simp_all [towerOk, aboveAll]), (by repeat (first | exact Below.refl _ _ | assumption | refine below_drewN ?_ _ | refine below_alloc (Nat.le_refl _) ?_ _ | (refine Below.setCell ?_ (by first | exact Nat.le_refl _ | (simp; done) | (simp; omega) | omega) _) | (refine below_step (Nat.le_refl _) ?_ (by assumption))))⟩
/-- What a function gives that has a number and whether it succeeds: of what it must be good, and which number. -/
def Num1 (good : Bool) (S : Nat) (w : World) (e : Ending) (w' : World) : Prop := ∃ r, e = .returned (.tuple #[.float .f32 r, .bool (good && fin .f32 S)]) ∧ cn .f32 r = cn .f32 (if good then num S else 0) ∧ Below w.heap.size w w'
theorem Num1.ok {good : Bool} {S r : Nat} {w w' : World} (hg : good = true) (hr : cn .f32 r = cn .f32 S) (hb : Below w.heap.size w w') : Num1 good S w (.returned (.tuple #[.float .f32 (num r), .bool (fin .f32 r)])) w' := by
  subst hg
  exact ⟨num r, by rw [fin_congr hr]; rfl, num_congr hr, hb⟩
theorem Num1.no {good : Bool} {S : Nat} {w w' : World} (hg : good = false) (hb : Below w.heap.size w w') : Num1 good S w (.returned (.tuple #[.float .f32 0, .bool false])) w' := by
  subst hg
  exact ⟨0, rfl, rfl, hb⟩
/-- .. and two numbers. -/
def Num2 (good : Bool) (S T : Nat) (w : World) (e : Ending) (w' : World) : Prop := ∃ r q, e = .returned (.tuple #[.float .f32 r, .float .f32 q, .bool (good && (fin .f32 S && fin .f32 T))]) ∧
  cn .f32 r = cn .f32 (if good && (fin .f32 S && fin .f32 T) then S else 0) ∧ cn .f32 q = cn .f32 (if good && (fin .f32 S && fin .f32 T) then T else 0) ∧ Below w.heap.size w w'
theorem Num2.no {good : Bool} {S T : Nat} {w w' : World} (hg : good = false) (hb : Below w.heap.size w w') : Num2 good S T w (.returned (.tuple #[.float .f32 0, .float .f32 0, .bool false])) w' := by
  subst hg
  exact ⟨0, 0, rfl, rfl, rfl, hb⟩
/-- both, if both are finite -/
def twoA (x y : Nat) : Nat := if fin .f32 x && fin .f32 y then x else 0
def twoB (x y : Nat) : Nat := if fin .f32 x && fin .f32 y then y else 0
abbrev two (x y : Nat) : Ending := .returned (.tuple #[.float .f32 (twoA x y), .float .f32 (twoB x y), .bool (fin .f32 x && fin .f32 y)])
theorem Num2.ok {good : Bool} {S T r q : Nat} {w w' : World} (hg : good = true) (hr : cn .f32 r = cn .f32 S) (hq : cn .f32 q = cn .f32 T) (hb : Below w.heap.size w w') : Num2 good S T w (two r q) w' := by
  subst hg
  have e1 := fin_congr hr
  have e2 := fin_congr hq
  refine ⟨_, _, by unfold two; rw [e1, e2]; rfl, ?_, ?_, hb⟩
  · unfold twoA; rw [e1, e2, Bool.true_and]; split <;> first | exact hr | rfl
  · unfold twoB; rw [e1, e2, Bool.true_and]; split <;> first | exact hq | rfl
theorem i_checkedTwo (x y : Nat) (w : World) : Calls Try.prog 71 #[.float .f32 x, .float .f32 y] w fun e w' => e = two x y ∧ Below w.heap.size w w' := by
  go_enter Try.func71, Try.ntmps71
  go_wp2_with (go_at_call 52; refine (i_areFinite _ [x, y] _ (RF_top2 _ _ (by simp) _ _ _)).mono ?_; rintro e w' ⟨rfl, n, rfl⟩)
  all_goals
    go_tidy
    go_ret3
    exact ⟨(by cases hb0 : fin .f32 x <;> cases hb1 : fin .f32 y <;> simp_all [twoA, twoB, finAll]), (by repeat (first | exact Below.refl _ _ | assumption | refine below_drewN ?_ _ | refine below_alloc (Nat.le_refl _) ?_ _ | (refine Below.setCell ?_ (by first | exact Nat.le_refl _ | (simp; done) | (simp; omega) | omega) _) | (refine below_step (Nat.le_refl _) ?_ (by assumption))))⟩
/-- The energy of a tower. -/
def energy (m s p v : Nat) : Nat := fa .add .f32 (fa .mul .f32 (fa .mul .f32 (fa .mul .f32 1056964608 m) v) v) (fa .mul .f32 (fa .mul .f32 (fa .mul .f32 1056964608 s) p) p)
def energyGood (m d s p v : Nat) : Bool := towerOk m d s && fin .f32 p && fin .f32 v
set_option maxHeartbeats 400000 in
theorem i_EnergyOfTower (m d s p v : Nat) (w : World) : Calls Try.prog 35 #[tow m d s, .float .f32 p, .float .f32 v] w (Num1 (energyGood m d s p v) (energy m s p v) w) := by
  go_enter Try.func35, Try.ntmps35
  go_wp2_with (first | (go_at_call 30; refine (i_ValidTower _ _ _ _).mono ?_; rintro e w' ⟨rfl, hb⟩; have hT := TowAt.below (b := w.heap.size) (m := m) (d := d) (s := s) (by first | exact tow_top _ _ (by simp) _ _ _ _ | exact ⟨by assumption, by assumption, by assumption⟩) hb (by first | (simp; done) | exact block_lt_of_cell (by assumption)); obtain ⟨c0, c1, c2⟩ := hT; have hz : w.heap.size < _ := block_lt_of_cell c0) | (go_at_call 52; refine (i_areFinite _ [p, v] _ (RF_top2 _ _ (by simp) _ _ _)).mono ?_; rintro e w' ⟨rfl, n, rfl⟩) | (go_at_call 49; refine (i_checked _ _).mono ?_; rintro e w' ⟨rfl, n, rfl⟩) | (refine wpList_fa rfl rfl rfl rfl rfl (by first | assumption | exact hrfl _) (by first | assumption | exact hrfl _) ?_; intro r n hr))
  all_goals
    go_tidy
    go_ret2
    first
      | exact Num1.no (by cases hb0 : towerOk m d s <;> cases hb1 : fin .f32 p <;> cases hb2 : fin .f32 v <;> simp_all [energyGood, finAll]) (by repeat (first | exact Below.refl _ _ | assumption | refine below_drewN ?_ _ | refine below_alloc (Nat.le_refl _) ?_ _ | (refine Below.setCell ?_ (by first | exact Nat.le_refl _ | (simp; done) | (simp; omega) | omega) _) | (refine below_step (Nat.le_refl _) ?_ (by assumption))))
      | exact Num1.ok (by cases hb0 : towerOk m d s <;> cases hb1 : fin .f32 p <;> cases hb2 : fin .f32 v <;> simp_all [energyGood, finAll]) (Eq.trans (Hid.out (by assumption)) (by simp only [energy, fa_cn_left, fa_cn_right, cn_fa])) (by repeat (first | exact Below.refl _ _ | assumption | refine below_drewN ?_ _ | refine below_alloc (Nat.le_refl _) ?_ _ | (refine Below.setCell ?_ (by first | exact Nat.le_refl _ | (simp; done) | (simp; omega) | omega) _) | (refine below_step (Nat.le_refl _) ?_ (by assumption))))
/-- A tower behind a tick: its speed, and its place. -/
def stepV (m d s p v f t : Nat) : Nat := fa .add .f32 v (fa .mul .f32 t (fa .quo .f32 (fa .sub .f32 (fa .sub .f32 f (fa .mul .f32 d v)) (fa .mul .f32 s p)) m))
def stepP (m d s p v f t : Nat) : Nat := fa .add .f32 p (fa .mul .f32 t (stepV m d s p v f t))
def stepGood (m d s p v f t : Nat) : Bool := towerOk m d s && fin .f32 p && fin .f32 v && fin .f32 f && above t
set_option maxHeartbeats 400000 in
theorem i_StepTower (m d s p v f t : Nat) (w : World) : Calls Try.prog 33 #[tow m d s, .float .f32 p, .float .f32 v, .float .f32 f, .float .f32 t] w (Num2 (stepGood m d s p v f t) (stepP m d s p v f t) (stepV m d s p v f t) w) := by
  go_enter Try.func33, Try.ntmps33
  go_wp2_with (first | (go_at_call 30; refine (i_ValidTower _ _ _ _).mono ?_; rintro e w' ⟨rfl, hb⟩; have hT := TowAt.below (b := w.heap.size) (m := m) (d := d) (s := s) (by first | exact tow_top _ _ (by simp) _ _ _ _ | exact ⟨by assumption, by assumption, by assumption⟩) hb (by first | (simp; done) | exact block_lt_of_cell (by assumption)); obtain ⟨c0, c1, c2⟩ := hT; have hz : w.heap.size < _ := block_lt_of_cell c0) | (go_at_call 52; refine (i_areFinite _ [p, v, f] _ (RF_top3 _ _ (by simp) _ _ _ _)).mono ?_; rintro e w' ⟨rfl, n, rfl⟩) | (go_at_call 57; refine (i_arePositive _ [t] _ (RF_top1 _ _ (by simp) _ _)).mono ?_; rintro e w' ⟨rfl, n, rfl⟩) | (refine wpList_fa rfl rfl rfl rfl rfl (by first | assumption | exact hrfl _) (by first | assumption | exact hrfl _) ?_; intro r n hr) | (go_at_call 71; refine (i_checkedTwo _ _ _).mono ?_; rintro e w' ⟨rfl, hb⟩))
  all_goals
    go_tidy
    go_ret3
    first
      | exact Num2.no (by cases hb0 : towerOk m d s <;> cases hb1 : fin .f32 p <;> cases hb2 : fin .f32 v <;> cases hb3 : fin .f32 f <;> cases hb4 : above t <;> simp_all [stepGood, finAll, aboveAll]) (by repeat (first | exact Below.refl _ _ | assumption | refine below_drewN ?_ _ | refine below_alloc (Nat.le_refl _) ?_ _ | (refine Below.setCell ?_ (by first | exact Nat.le_refl _ | (simp; done) | (simp; omega) | omega) _) | (refine below_step (Nat.le_refl _) ?_ (by assumption))))
      | exact Num2.ok (by cases hb0 : towerOk m d s <;> cases hb1 : fin .f32 p <;> cases hb2 : fin .f32 v <;> cases hb3 : fin .f32 f <;> cases hb4 : above t <;> simp_all [stepGood, finAll, aboveAll]) (Eq.trans (Hid.out (by assumption)) (by simp only [stepP, stepV, fa_cn_left, fa_cn_right, cn_fa])) (Eq.trans (Hid.out (by assumption)) (by simp only [stepP, stepV, fa_cn_left, fa_cn_right, cn_fa])) (by repeat (first | exact Below.refl _ _ | assumption | refine below_drewN ?_ _ | refine below_alloc (Nat.le_refl _) ?_ _ | (refine Below.setCell ?_ (by first | exact Nat.le_refl _ | (simp; done) | (simp; omega) | omega) _) | (refine below_step (Nat.le_refl _) ?_ (by assumption))))
end Go.Proofs.Ytmpmnhnobgidoaa
