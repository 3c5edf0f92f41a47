/- Walks: what a valid farm is. -/
import Derived.Test.YtpkkgfjjnggijaaDoorKD
import Derived.Deep.RegionHeld3
namespace Go.Proofs.YtpkkgfjjnggijaaDoor
set_option linter.unusedSimpArgs false
set_option linter.unusedVariables false
open Go.RowKit Go.Fl Go.Lib

abbrev farmV (vx vy : Value) (r d s : Nat) : Value := .agg #[vx, vy, .float .f32 r, .float .f32 d, .float .f32 s]
def FarmAt (w : World) (g : Nat) (vx vy : Value) (r d s : Nat) : Prop := w.cell? ⟨g, 0, none⟩ = some vx ∧ w.cell? ⟨g, 1, none⟩ = some vy ∧ w.cell? ⟨g, 2, none⟩ = some (.float .f32 r) ∧ w.cell? ⟨g, 3, none⟩ = some (.float .f32 d) ∧ w.cell? ⟨g, 4, none⟩ = some (.float .f32 s)
theorem FarmAt.below {w w' : World} {g : Nat} {vx vy : Value} {r d s : Nat} (h : FarmAt w g vx vy r d s) (hb : Below w.heap.size w w') : FarmAt w' g vx vy r d s := ⟨hcell_below h.1 hb, hcell_below h.2.1 hb, hcell_below h.2.2.1 hb, hcell_below h.2.2.2.1 hb, hcell_below h.2.2.2.2 hb⟩
theorem farm_top (w : World) (k : Nat) (hk : k = w.heap.size) (vx vy : Value) (r d s : Nat) (t : TypeId) : FarmAt (w.alloc (.cells #[vx, vy, .float .f32 r, .float .f32 d, .float .f32 s] t)) k vx vy r d s := by
  subst hk
  refine ⟨?_, ?_, ?_, ?_, ?_⟩ <;> (rw [cell_of_row _ _ _ _ t (0, 0) (heap_alloc_new w _)]; rfl)
/-- A coordinate of a rotor. -/
def near (x : Nat) : Bool := fromTo x 3351465984 1203982336
def nearAll (xs : List Nat) : Bool := xs.all near
def farmLen (x y : List Nat) : Bool := decide (1 ≤ x.length) && decide (x.length ≤ 12) && decide (y.length = x.length)
def farmOk (x y : List Nat) (r d s : Nat) : Bool := farmLen x y && (above r && !fgt .f32 r 1148846080 && above s && fromTo d 0 1056964608) && (nearAll x && nearAll y)
theorem farmOk_len {x y : List Nat} {r d s : Nat} (h : ¬ (1 ≤ x.length ∧ x.length ≤ 12 ∧ y.length = x.length)) : farmOk x y r d s = false := by
  have : farmLen x y = false := by
    rw [Bool.eq_false_iff]
    intro e
    unfold farmLen at e
    simp only [Bool.and_eq_true, decide_eq_true_eq] at e
    exact h ⟨e.1.1, e.1.2, e.2⟩
  unfold farmOk; rw [this]; rfl
theorem farmOk_of {x y : List Nat} {r d s : Nat} (h1 : 1 ≤ x.length) (h2 : x.length ≤ 12) (h3 : y.length = x.length) : farmOk x y r d s = (above r && !fgt .f32 r 1148846080 && above s && fromTo d 0 1056964608 && (nearAll x && nearAll y)) := by
  have : farmLen x y = true := by unfold farmLen; simp; omega
  unfold farmOk; rw [this, Bool.true_and]
theorem farmLen_of {x y : List Nat} {r d s : Nat} (h : farmOk x y r d s = true) : x.length ≤ 12 ∧ y.length ≤ 12 := by
  unfold farmOk farmLen at h
  simp only [Bool.and_eq_true, decide_eq_true_eq] at h
  omega
theorem nearAll_no {x y : List Nat} (k : Nat) (hk : k < x.length) (h : near (x.getD k 0) = false) : nearAll x = false := by
  unfold nearAll
  rw [List.all_eq_false]
  exact ⟨_, List.getElem_mem hk, by rw [← getD_at hk, h]; decide⟩
theorem nearAll_yes {x : List Nat} (h : ∀ j, j < x.length → near (x.getD j 0) = true) : nearAll x = true := by
  unfold nearAll
  rw [List.all_eq_true]
  intro v hv
  obtain ⟨i, hi, rfl⟩ := List.mem_iff_getElem.1 hv
  rw [← getD_at hi]
  exact h i hi
theorem s_l06Near (x : Nat) (w : World) : Calls Tryd.prog 75 #[.float .f32 x] w fun e w' => e = .returned (.bool (near x)) ∧ ∃ n, w' = w.drewN n := by
  go_enter Tryd.func75, Tryd.ntmps75
  go_wp2
  all_goals
    go_ret
    exact ⟨by simp_all [near, fromTo, fge, fle], 0, rfl⟩
set_option maxRecDepth 100000 in
set_option maxHeartbeats 4000000 in
theorem s_l06Is (g : Nat) (vx vy : Value) (x y : List Nat) (r d s : Nat) (w : World) (hp : FarmAt w g vx vy r d s) (hx : RF w vx x) (hy : RF w vy y) : Calls Tryd.prog 59 #[.pointer (some ⟨g, 0, none⟩)] w fun e' w' => e' = .returned (.bool (farmOk x y r d s)) ∧ ∃ n, w' = w.drewN n := by
  obtain ⟨px, cx, rfl, hmx, hcx⟩ := hx
  obtain ⟨py, cy, rfl, hmy, hcy⟩ := hy
  obtain ⟨h0, h1, h2, h3, h4⟩ := hp
  have HCX := Lib.hid hcx
  have HCY := Lib.hid hcy
  clear hcx hcy
  by_cases q0 : x.length < 1
  · have e0 : Hid (farmOk x y r d s = false) := farmOk_len (by omega)
    have q0' : (x.length : Int) < 1 := by omega
    go_enter Tryd.func59, Tryd.ntmps59
    go_wp2
    go_ret
    exact ⟨by rw [e0.out]; rfl, 0, rfl⟩
  have q0' : ¬ (x.length : Int) < 1 := by omega
  by_cases q1 : 12 < x.length
  · have e0 : Hid (farmOk x y r d s = false) := farmOk_len (by omega)
    have q1' : (12 : Int) < (x.length : Int) := by omega
    go_enter Tryd.func59, Tryd.ntmps59
    go_wp2
    go_ret
    exact ⟨by rw [e0.out]; rfl, 0, rfl⟩
  have q1' : ¬ (12 : Int) < (x.length : Int) := by omega
  by_cases q2 : y.length = x.length
  case neg =>
    have e0 : Hid (farmOk x y r d s = false) := farmOk_len (by omega)
    have q2' : ((y.length : Int) != (x.length : Int)) = true := by simp; omega
    go_enter Tryd.func59, Tryd.ntmps59
    go_wp2
    go_ret
    exact ⟨by rw [e0.out]; rfl, 0, rfl⟩
  have HP : Hid (farmOk x y r d s = (above r && !fgt .f32 r 1148846080 && above s && fromTo d 0 1056964608 && (nearAll x && nearAll y))) := farmOk_of (by omega) (by omega) q2
  rw [q2] at h1
  have Q2 := Lib.hid q2
  clear q2 hmy
  have A1 := Lib.hid (fun W => s_l02Above r W)
  have A2 := Lib.hid (fun W => s_l02Above s W)
  generalize above r = KR at *
  generalize above s = KS at *
  cases KR
  · have e0 : Hid (farmOk x y r d s = false) := by show _ = _; rw [HP.out]; simp only [Bool.false_and]
    go_enter Tryd.func59, Tryd.ntmps59
    go_wp2_with (first | (go_at_call 46; with_reducible refine (A1.out _).mono ?_; rintro e2 w2 ⟨rfl, n2, rfl⟩))
    go_ret
    exact ⟨by rw [e0.out]; rfl, _, rfl⟩
  cases k1 : fgt .f32 r 1148846080
  case true =>
    have e0 : Hid (farmOk x y r d s = false) := by show _ = _; rw [HP.out, k1]; simp only [Bool.not_true, Bool.and_false, Bool.false_and]
    unfold fgt at k1
    go_enter Tryd.func59, Tryd.ntmps59
    go_wp2_with (first | (go_at_call 46; with_reducible refine (A1.out _).mono ?_; rintro e2 w2 ⟨rfl, n2, rfl⟩))
    go_ret
    exact ⟨by rw [e0.out]; rfl, _, rfl⟩
  rw [k1] at HP
  unfold fgt at k1
  cases KS
  · have e0 : Hid (farmOk x y r d s = false) := by show _ = _; rw [HP.out]; simp only [Bool.and_false, Bool.false_and]
    go_enter Tryd.func59, Tryd.ntmps59
    go_wp2_with (first | (go_at_call 46; with_reducible refine (A1.out _).mono ?_; rintro e2 w2 ⟨rfl, n2, rfl⟩) | (go_at_call 46; with_reducible refine (A2.out _).mono ?_; rintro e3 w3 ⟨rfl, n3, rfl⟩))
    go_ret
    exact ⟨by rw [e0.out]; rfl, by first | exact ⟨_, rfl⟩ | (simp only [World.drewN_drewN]; exact ⟨_, rfl⟩)⟩
  cases k2 : fge .f32 d 0
  · have e0 : Hid (farmOk x y r d s = false) := by show _ = _; rw [HP.out]; unfold fromTo; rw [k2]; simp only [Bool.and_false, Bool.false_and]
    unfold fge at k2
    go_enter Tryd.func59, Tryd.ntmps59
    go_wp2_with (first | (go_at_call 46; with_reducible refine (A1.out _).mono ?_; rintro e2 w2 ⟨rfl, n2, rfl⟩) | (go_at_call 46; with_reducible refine (A2.out _).mono ?_; rintro e3 w3 ⟨rfl, n3, rfl⟩))
    go_ret
    exact ⟨by rw [e0.out]; rfl, by first | exact ⟨_, rfl⟩ | (simp only [World.drewN_drewN]; exact ⟨_, rfl⟩)⟩
  cases k3 : fle .f32 d 1056964608
  · have e0 : Hid (farmOk x y r d s = false) := by show _ = _; rw [HP.out]; unfold fromTo; rw [k3]; simp only [Bool.and_false, Bool.false_and]
    unfold fge at k2
    unfold fle at k3
    go_enter Tryd.func59, Tryd.ntmps59
    go_wp2_with (first | (go_at_call 46; with_reducible refine (A1.out _).mono ?_; rintro e2 w2 ⟨rfl, n2, rfl⟩) | (go_at_call 46; with_reducible refine (A2.out _).mono ?_; rintro e3 w3 ⟨rfl, n3, rfl⟩))
    go_ret
    exact ⟨by rw [e0.out]; rfl, by first | exact ⟨_, rfl⟩ | (simp only [World.drewN_drewN]; exact ⟨_, rfl⟩)⟩
  have HQ : Hid (farmOk x y r d s = (nearAll x && nearAll y)) := by show _ = _; rw [HP.out]; unfold fromTo; rw [k2, k3]; simp only [Bool.not_false, Bool.true_and]
  clear HP
  unfold fge at k2
  unfold fle at k3
  go_enter Tryd.func59, Tryd.ntmps59
  go_wp2_with (first | (go_at_call 46; with_reducible refine (A1.out _).mono ?_; rintro e2 w2 ⟨rfl, n2, rfl⟩) | (go_at_call 46; with_reducible refine (A2.out _).mono ?_; rintro e3 w3 ⟨rfl, n3, rfl⟩))
  clear A1 A2 k1 k2 k3
  go_loopw [4] (fun i wr => ∃ k n : Nat, k ≤ x.length ∧ i = .int .i64 k ∧ wr = w.drewN n ∧ ∀ j, j < k → near (x.getD j 0) = true ∧ near (y.getD j 0) = true) (fun i _ => x.length - (RowKit.intOf i).toNat)
  case atStart => exact ⟨0, n2 + n3, Nat.zero_le _, rfl, by simp only [World.drewN_drewN], fun j h => absurd h (Nat.not_lt_zero _)⟩
  case round =>
    obtain ⟨k, n, hk, rfl, rfl, hn⟩ := hrel
    by_cases hlt : k < x.length
    case neg =>
      have hk2 : k = x.length := by omega
      have e0 : Hid (farmOk x y r d s = true) := by show _ = _; rw [HQ.out, nearAll_yes (fun j hj => (hn j (by omega)).1), nearAll_yes (fun j hj => (hn j (by have := Q2.out; omega)).2)]; rfl
      clear hn hk
      subst hk2
      go_wp2
      go_ret
      exact ⟨by rw [e0.out]; rfl, n, rfl⟩
    obtain ⟨bx, ox, rfl, gx⟩ := HCX.out.resolve_left (by omega)
    obtain ⟨b_y, oy, rfl, gy⟩ := HCY.out.resolve_left (by have := Q2.out; omega)
    have hyk : k < y.length := by have := Q2.out; omega
    have c0 : w.cell? ⟨bx, ox + k, none⟩ = some (.float .f32 x[k]) := gx k _ (by simp [hlt])
    have c1 : w.cell? ⟨b_y, oy + k, none⟩ = some (.float .f32 y[k]) := gy k _ (by simp [hyk])
    have HX : Hid (near x[k] = false → farmOk x y r d s = false) := fun h => by rw [HQ.out, nearAll_no (y := y) k hlt (by rw [getD_at hlt]; exact h)]; rfl
    have HY : Hid (near y[k] = false → farmOk x y r d s = false) := fun h => by rw [HQ.out, nearAll_no (y := x) k hyk (by rw [getD_at hyk]; exact h), Bool.and_false]
    have HN := Lib.hid hn
    have ex : Hid (x.getD k 0 = x[k]) := getD_at hlt
    have ey : Hid (y.getD k 0 = y[k]) := getD_at hyk
    have A1 := Lib.hid (fun W => s_l06Near x[k] W)
    have A2 := Lib.hid (fun W => s_l06Near y[k] W)
    clear hn hk gx gy
    generalize x[k] = u at *
    generalize y[k] = v at *
    have hnu : Hid (∀ b, near u = b → near (x.getD k 0) = b) := fun b h => by rw [ex.out]; exact h
    have hnv : Hid (∀ b, near v = b → near (y.getD k 0) = b) := fun b h => by rw [ey.out]; exact h
    generalize hU : near u = KU at *
    generalize hV : near v = KV at *
    clear hU hV
    cases KU
    · have e0 : Hid (farmOk x y r d s = false) := HX.out rfl
      go_wp2_with (first | (go_at_call 75; with_reducible refine (A1.out _).mono ?_; rintro e2 w2 ⟨rfl, m2, rfl⟩))
      go_ret
      exact ⟨by rw [e0.out]; rfl, by first | exact ⟨_, rfl⟩ | (simp only [World.drewN_drewN]; exact ⟨_, rfl⟩)⟩
    cases KV
    · have e0 : Hid (farmOk x y r d s = false) := HY.out rfl
      go_wp2_with (first | (go_at_call 75; with_reducible refine (A1.out _).mono ?_; rintro e2 w2 ⟨rfl, m2, rfl⟩) | (go_at_call 75; with_reducible refine (A2.out _).mono ?_; rintro e3 w3 ⟨rfl, m3, rfl⟩))
      go_ret
      exact ⟨by rw [e0.out]; rfl, by first | exact ⟨_, rfl⟩ | (simp only [World.drewN_drewN]; exact ⟨_, rfl⟩)⟩
    go_wp2_with (first | (go_at_call 75; with_reducible refine (A1.out _).mono ?_; rintro e2 w2 ⟨rfl, m2, rfl⟩) | (go_at_call 75; with_reducible refine (A2.out _).mono ?_; rintro e3 w3 ⟨rfl, m3, rfl⟩))
    go_roundw
    case rel => exact ⟨k + 1, n + (m2 + m3), by omega, by go_num, by simp only [World.drewN_drewN, Nat.add_assoc], fun j hj => by
      by_cases hjk : j < k
      · exact HN.out j hjk
      · obtain rfl : j = k := by omega
        exact ⟨hnu.out _ rfl, hnv.out _ rfl⟩⟩
    case measure => simp [RowKit.intOf]; omega
theorem i_ValidFarm_1 (x : Nat) (w : World) : Calls Tryd.prog 61 #[.float .f32 x] w fun e w' => e = .returned (.bool (!near x)) ∧ ∃ n, w' = w.drewN n := by
  go_enter Tryd.func61, Tryd.ntmps61
  go_wp2_with (go_at_call 37; refine (i_isFromTo _ _ _ _).mono ?_; rintro e w' ⟨rfl, n, rfl⟩)
  go_ret
  exact ⟨rfl, n, rfl⟩
end Go.Proofs.YtpkkgfjjnggijaaDoor
