/- Walks: a farm read, both. -/
import Derived.Test.YtpkkgfjjnggijaaDoorRL
import Derived.Test.YtpkkgfjjnggijaaDoorKI
import Derived.Deep.RegionHeld3
namespace Go.Proofs.YtpkkgfjjnggijaaDoor
set_option linter.unusedSimpArgs false
set_option linter.unusedVariables false
open Go.RowKit Go.Fl Go.Tx Go.Lib

/-- The farm that a text tells. -/
def farmOf (t : ByteArray) : Option (List Nat × List Nat × Nat × Nat × Nat) := match threeOf 59 t with
  | some [x, y, [r, d, s]] => if farmOk x y r d s then some (x, y, r, d, s) else none
  | _ => none
def farmL : Option (List Nat × List Nat × Nat × Nat × Nat) → List (List Nat)
  | some (x, y, _, _, _) => [x, y]
  | none => [[], []]
def farmN : Option (List Nat × List Nat × Nat × Nat × Nat) → Nat × Nat × Nat
  | some (_, _, r, d, s) => (r, d, s)
  | none => (0, 0, 0)
def FarmRd (t : ByteArray) (w : World) (e : Ending) (w' : World) : Prop := ∃ vx vy, e = .returned (.tuple #[farmV vx vy (farmN (farmOf t)).1 (farmN (farmOf t)).2.1 (farmN (farmOf t)).2.2, .bool (farmOf t).isSome]) ∧ Parts w.heap.size w' [vx, vy] (farmL (farmOf t)) ∧ Below w.heap.size w w'
theorem Parts_nil2 (B : Nat) (w : World) : Parts B w [nilS, nilS] [[], []] :=
  ⟨OF_nilN _ _, fun _ _ _ h => by simp [Value.ownBlock] at h, OF_nilN _ _, fun _ _ _ h => by simp [Value.ownBlock] at h, trivial⟩
theorem FarmRd.no {t : ByteArray} {w w' : World} (h : farmOf t = none) (hb : Below w.heap.size w w') : FarmRd t w (.returned (.tuple #[farmV nilS nilS 0 0 0, .bool false])) w' :=
  ⟨_, _, by rw [h]; rfl, by rw [h]; exact Parts_nil2 _ _, hb⟩
theorem FarmRd.ok {t : ByteArray} {x y : List Nat} {r d s : Nat} {vx vy : Value} {w w' : World} (h : farmOf t = some (x, y, r, d, s)) (hp : Parts w.heap.size w' [vx, vy] [x, y]) (hb : Below w.heap.size w w') : FarmRd t w (.returned (.tuple #[farmV vx vy r d s, .bool true])) w' :=
  ⟨_, _, by rw [h]; rfl, by rw [h]; exact hp, hb⟩
theorem farmOf_none {t : ByteArray} (h : threeOf 59 t = none) : farmOf t = none := by unfold farmOf; rw [h]
theorem farmOf_len {t : ByteArray} {x y z : List Nat} (h : threeOf 59 t = some [x, y, z]) (hz : z.length ≠ 3) : farmOf t = none := by
  unfold farmOf
  rw [h]
  match z, hz with
  | [], _ | [_], _ | [_, _], _ => rfl
  | [_, _, _], hz => exact absurd rfl hz
  | _ :: _ :: _ :: _ :: _, _ => rfl
theorem farmOf_three {t : ByteArray} {x y : List Nat} {r d s : Nat} (h : threeOf 59 t = some [x, y, [r, d, s]]) : farmOf t = if farmOk x y r d s then some (x, y, r, d, s) else none := by unfold farmOf; rw [h]
theorem farmOf_few {t : ByteArray} {x y : List Nat} {r d s : Nat} (h : farmOf t = some (x, y, r, d, s)) : x.length ≤ 12 ∧ y.length ≤ 12 := by
  unfold farmOf at h
  split at h
  · split at h
    · rename_i hk
      cases h
      exact farmLen_of hk
    · cases h
  · cases h
theorem RF_three {w : World} {v : Value} {a b c : Nat} (h : RF w v [a, b, c]) : ∃ g o cap, v = .slice (some ⟨g, o, none⟩) 3 cap ∧ w.cell? ⟨g, o, none⟩ = some (.float .f32 a) ∧ w.cell? ⟨g, o + 1, none⟩ = some (.float .f32 b) ∧ w.cell? ⟨g, o + 2, none⟩ = some (.float .f32 c) := by
  obtain ⟨p, cap, rfl, hm, hc⟩ := h
  obtain ⟨g, o, rfl, hcell⟩ := hc.resolve_left (by simp)
  exact ⟨g, o, cap, rfl, hcell 0 _ rfl, hcell 1 _ rfl, hcell 2 _ rfl⟩
def GiveF (ok : Bool) (vx vy : Value) (r d s : Nat) (w : World) (e : Ending) (w' : World) : Prop := e = .returned (.tuple #[if ok then farmV vx vy r d s else farmV nilS nilS 0 0 0, .bool ok]) ∧ Below w.heap.size w w'
theorem GiveF.no {vx vy : Value} {r d s : Nat} {w w' : World} (hb : Below w.heap.size w w') : GiveF false vx vy r d s w (.returned (.tuple #[farmV nilS nilS 0 0 0, .bool false])) w' := ⟨rfl, hb⟩
theorem GiveF.ok {vx vy : Value} {r d s : Nat} {w w' : World} (hb : Below w.heap.size w w') : GiveF true vx vy r d s w (.returned (.tuple #[farmV vx vy r d s, .bool true])) w' := ⟨rfl, hb⟩
set_option maxHeartbeats 1000000 in
theorem s_l06Give (vx vy : Value) (x y : List Nat) (r d s : Nat) (w : World) (hx : RF w vx x) (hy : RF w vy y) : Calls Tryd.prog 42 #[farmV vx vy r d s] w (GiveF (farmOk x y r d s) vx vy r d s w) := by
  have HV := Lib.hid (fun g W (hp : FarmAt W g vx vy r d s) (hb : Below w.heap.size w W) => s_l06Is g vx vy x y r d s W hp (RF_below hx hb) (RF_below hy hb))
  obtain ⟨px, cx, rfl, -, -⟩ := hx
  obtain ⟨py, cy, rfl, -, -⟩ := hy
  generalize farmOk x y r d s = ok at *
  cases ok
  all_goals
    go_enter Tryd.func42, Tryd.ntmps42
    go_wp2_with fail
    obtain ⟨w2, hw2⟩ : ∃ w2, w2 = (w.alloc (.cells #[.slice px x.length cx, .slice py y.length cy, .float .f32 r, .float .f32 d, .float .f32 s] 37)).alloc (.cells #[.slice none 0 0, .slice none 0 0, .float .f32 0, .float .f32 0, .float .f32 0] 37) := ⟨_, rfl⟩
    have HB : Hid (Below w.heap.size w w2) := by rw [hw2]; exact (by repeat (first | exact Below.refl _ _ | assumption | refine below_drewN ?_ _ | refine below_alloc (Nat.le_refl _) ?_ _ | (refine Below.setCell ?_ (by first | exact Nat.le_refl _ | (simp; done) | (simp; omega) | omega) _) | (refine below_step (Nat.le_refl _) ?_ (by assumption))))
    have HP : Hid (FarmAt w2 w.heap.size (.slice px x.length cx) (.slice py y.length cy) r d s) := by rw [hw2]; exact (farm_top w _ rfl _ _ _ _ _ _).below (below_alloc (Nat.le_refl _) (Below.refl _ _) _)
    have HQ : Hid (FarmAt w2 (w.heap.size + 1) nilS nilS 0 0 0) := by rw [hw2]; exact farm_top _ _ (by simp) _ _ _ _ _ _
    have HS : Hid (∀ j, w2.frozen? ⟨w.heap.size + 1, j, none⟩ = false) := by rw [hw2]; exact softR _ _ (by simp) _ _
    rw [← hw2]
    clear hw2
    obtain ⟨g, hg⟩ : ∃ g, g = w.heap.size + 1 := ⟨_, rfl⟩
    obtain ⟨k, hk⟩ : ∃ k, k = w.heap.size := ⟨_, rfl⟩
    rw [← hg] at HQ HS
    rw [← hk] at HP
    rw [← hg, ← hk]
    have HG : Hid (w.heap.size ≤ g) := by show _ ≤ _; omega
    clear hg hk
    refine (HV.out k w2 HP.out HB.out).mono ?_
    rintro e' w3 ⟨rfl, n, rfl⟩
    have HB3 := HB
    have hs := HS.out
    obtain ⟨k0, k1, k2, k3, k4⟩ := HP.out
    obtain ⟨c0, c1, c2, c3, c4⟩ := HQ.out
    go_wp2
    first
      | exact bodyPost_ret (v := .tuple #[farmV nilS nilS 0 0 0, .bool false]) (by simp [results, Tryd.results42, go_sem, *]) rfl (GiveF.no (by repeat (first | exact HB3.out | refine Below.setCell ?_ HG.out _ | refine below_drewN ?_ _)))
      | exact bodyPost_ret (v := .tuple #[farmV (.slice px x.length cx) (.slice py y.length cy) r d s, .bool true]) (by simp [results, Tryd.results42, go_sem, *]) rfl (GiveF.ok (by repeat (first | exact HB3.out | refine Below.setCell ?_ HG.out _ | refine below_drewN ?_ _)))
set_option maxHeartbeats 1000000 in
theorem i_checkedFarm (vx vy : Value) (x y : List Nat) (r d s : Nat) (w : World) (hx : RF w vx x) (hy : RF w vy y) : Calls Tryd.prog 30 #[farmV vx vy r d s] w (GiveF (farmOk x y r d s) vx vy r d s w) := by
  have HV := Lib.hid (fun W (hb : Below w.heap.size w W) => i_ValidFarm vx vy x y r d s W (RF_below hx hb) (RF_below hy hb))
  obtain ⟨px, cx, rfl, -, -⟩ := hx
  obtain ⟨py, cy, rfl, -, -⟩ := hy
  generalize farmOk x y r d s = ok at *
  cases ok
  all_goals
    go_enter Tryd.func30, Tryd.ntmps30
    go_wp2_with fail
    obtain ⟨w2, hw2⟩ : ∃ w2, w2 = (w.alloc (.cells #[.slice px x.length cx, .slice py y.length cy, .float .f32 r, .float .f32 d, .float .f32 s] 37)).alloc (.cells #[.slice none 0 0, .slice none 0 0, .float .f32 0, .float .f32 0, .float .f32 0] 37) := ⟨_, rfl⟩
    have HB : Hid (Below w.heap.size w w2) := by rw [hw2]; exact (by repeat (first | exact Below.refl _ _ | assumption | refine below_drewN ?_ _ | refine below_alloc (Nat.le_refl _) ?_ _ | (refine Below.setCell ?_ (by first | exact Nat.le_refl _ | (simp; done) | (simp; omega) | omega) _) | (refine below_step (Nat.le_refl _) ?_ (by assumption))))
    have HP : Hid (FarmAt w2 w.heap.size (.slice px x.length cx) (.slice py y.length cy) r d s) := by rw [hw2]; exact (farm_top w _ rfl _ _ _ _ _ _).below (below_alloc (Nat.le_refl _) (Below.refl _ _) _)
    have HQ : Hid (FarmAt w2 (w.heap.size + 1) nilS nilS 0 0 0) := by rw [hw2]; exact farm_top _ _ (by simp) _ _ _ _ _ _
    have HS : Hid (∀ j, w2.frozen? ⟨w.heap.size + 1, j, none⟩ = false) := by rw [hw2]; exact softR _ _ (by simp) _ _
    rw [← hw2]
    clear hw2
    obtain ⟨g, hg⟩ : ∃ g, g = w.heap.size + 1 := ⟨_, rfl⟩
    obtain ⟨k, hk⟩ : ∃ k, k = w.heap.size := ⟨_, rfl⟩
    rw [← hg] at HQ HS
    rw [← hk] at HP
    rw [← hg, ← hk]
    have HG : Hid (w.heap.size ≤ g) := by show _ ≤ _; omega
    clear hg hk
    refine (HV.out w2 HB.out).mono ?_
    rintro e' w3 ⟨rfl, hb⟩
    have HB3 := Lib.hid (below_step (Nat.le_refl _) HB.out hb)
    have hs : ∀ j, w3.frozen? ⟨g, j, none⟩ = false := fun j => (hb.frozen (p := ⟨g, j, none⟩) (show g < _ from block_lt_of_cell HQ.out.1)).trans (HS.out j)
    obtain ⟨k0, k1, k2, k3, k4⟩ := HP.out.below hb
    obtain ⟨c0, c1, c2, c3, c4⟩ := HQ.out.below hb
    clear hb HV HP HQ HS HB
    go_wp2
    first
      | exact bodyPost_ret (v := .tuple #[farmV nilS nilS 0 0 0, .bool false]) (by simp [results, Tryd.results30, go_sem, *]) rfl (GiveF.no (by repeat (first | exact HB3.out | refine Below.setCell ?_ HG.out _ | refine below_drewN ?_ _)))
      | exact bodyPost_ret (v := .tuple #[farmV (.slice px x.length cx) (.slice py y.length cy) r d s, .bool true]) (by simp [results, Tryd.results30, go_sem, *]) rfl (GiveF.ok (by repeat (first | exact HB3.out | refine Below.setCell ?_ HG.out _ | refine below_drewN ?_ _)))
end Go.Proofs.YtpkkgfjjnggijaaDoor
