/- Walks: a profile read. -/
import Derived.Test.YtpkkgfjjnggijaaDoorRH
import Derived.Test.YtpkkgfjjnggijaaDoorKD
namespace Go.Proofs.YtpkkgfjjnggijaaDoor
set_option linter.unusedSimpArgs false
set_option linter.unusedVariables false
open Go.RowKit Go.Fl Go.Tx Go.Lib

abbrev nilS : Value := .slice none 0 0
/-- The profile that a text tells. -/
def profOf (t : ByteArray) : Option (List Nat × List Nat × List Nat) := match threeOf 58 t with
  | some [a, l, d] => if profOk a l d then some (a, l, d) else none
  | _ => none
def profL : Option (List Nat × List Nat × List Nat) → List (List Nat)
  | some (a, l, d) => [a, l, d]
  | none => [[], [], []]
def ProfRd (t : ByteArray) (w : World) (e : Ending) (w' : World) : Prop := ∃ va vl vd, e = .returned (.tuple #[profV va vl vd, .bool (profOf t).isSome]) ∧ Parts w.heap.size w' [va, vl, vd] (profL (profOf t)) ∧ Below w.heap.size w w'
theorem Parts_nil3 (B : Nat) (w : World) : Parts B w [nilS, nilS, nilS] [[], [], []] :=
  ⟨OF_nilN _ _, fun _ _ _ h => by simp [Value.ownBlock] at h, OF_nilN _ _, fun _ _ _ h => by simp [Value.ownBlock] at h, OF_nilN _ _, fun _ _ _ h => by simp [Value.ownBlock] at h, trivial⟩
theorem ProfRd.no {t : ByteArray} {w w' : World} (h : profOf t = none) (hb : Below w.heap.size w w') : ProfRd t w (.returned (.tuple #[profV nilS nilS nilS, .bool false])) w' :=
  ⟨_, _, _, by rw [h]; rfl, by rw [h]; exact Parts_nil3 _ _, hb⟩
theorem ProfRd.ok {t : ByteArray} {a l d : List Nat} {va vl vd : Value} {w w' : World} (h : profOf t = some (a, l, d)) (hp : Parts w.heap.size w' [va, vl, vd] [a, l, d]) (hb : Below w.heap.size w w') : ProfRd t w (.returned (.tuple #[profV va vl vd, .bool true])) w' :=
  ⟨_, _, _, by rw [h]; rfl, by rw [h]; exact hp, hb⟩
theorem profOf_none {t : ByteArray} (h : threeOf 58 t = none) : profOf t = none := by unfold profOf; rw [h]
theorem profOf_three {t : ByteArray} {a l d : List Nat} (h : threeOf 58 t = some [a, l, d]) : profOf t = if profOk a l d then some (a, l, d) else none := by unfold profOf; rw [h]
/-- What the check of a profile gives. -/
def GiveP (ok : Bool) (va vl vd : Value) (w : World) (e : Ending) (w' : World) : Prop := e = .returned (.tuple #[if ok then profV va vl vd else profV nilS nilS nilS, .bool ok]) ∧ Below w.heap.size w w'
theorem GiveP.no {va vl vd : Value} {w w' : World} (hb : Below w.heap.size w w') : GiveP false va vl vd w (.returned (.tuple #[profV nilS nilS nilS, .bool false])) w' := ⟨rfl, hb⟩
theorem GiveP.ok {va vl vd : Value} {w w' : World} (hb : Below w.heap.size w w') : GiveP true va vl vd w (.returned (.tuple #[profV va vl vd, .bool true])) w' := ⟨rfl, hb⟩
set_option maxHeartbeats 1000000 in
theorem s_l02Give (va vl vd : Value) (a l d : List Nat) (w : World) (ha : RF w va a) (hl : RF w vl l) (hd : RF w vd d) : Calls Tryd.prog 39 #[profV va vl vd] w (GiveP (profOk a l d) va vl vd w) := by
  have HV := Lib.hid (fun g W (hp : ProfAt W g va vl vd) (hb : Below w.heap.size w W) => s_l02Is g va vl vd a l d W hp (RF_below ha hb) (RF_below hl hb) (RF_below hd hb))
  obtain ⟨pa, ca, rfl, -, -⟩ := ha
  obtain ⟨pl, cl, rfl, -, -⟩ := hl
  obtain ⟨pd, cd, rfl, -, -⟩ := hd
  generalize profOk a l d = ok at *
  cases ok
  all_goals
    go_enter Tryd.func39, Tryd.ntmps39
    go_wp2_with fail
    obtain ⟨w2, hw2⟩ : ∃ w2, w2 = (w.alloc (.cells #[(.slice pa a.length ca), (.slice pl l.length cl), (.slice pd d.length cd)] 31)).alloc (.cells #[nilS, nilS, nilS] 31) := ⟨_, rfl⟩
    have HB : Hid (Below w.heap.size w w2) := by rw [hw2]; exact (by repeat (first | exact Below.refl _ _ | assumption | refine below_drewN ?_ _ | refine below_alloc (Nat.le_refl _) ?_ _ | (refine Below.setCell ?_ (by first | exact Nat.le_refl _ | (simp; done) | (simp; omega) | omega) _) | (refine below_step (Nat.le_refl _) ?_ (by assumption))))
    have HP : Hid (ProfAt w2 w.heap.size (.slice pa a.length ca) (.slice pl l.length cl) (.slice pd d.length cd)) := by rw [hw2]; exact (prof_top w _ rfl (.slice pa a.length ca) (.slice pl l.length cl) (.slice pd d.length cd) _).below (below_alloc (Nat.le_refl _) (Below.refl _ _) _)
    have HQ : Hid (ProfAt w2 (w.heap.size + 1) nilS nilS nilS) := by rw [hw2]; exact prof_top _ _ (by simp) _ _ _ _
    have hs : ∀ j, w2.frozen? ⟨w.heap.size + 1, j, none⟩ = false := by rw [hw2]; exact softR _ _ (by simp) _ _
    rw [← hw2]
    clear hw2
    obtain ⟨g, hg⟩ : ∃ g, g = w.heap.size + 1 := ⟨_, rfl⟩
    obtain ⟨k, hk⟩ : ∃ k, k = w.heap.size := ⟨_, rfl⟩
    rw [← hg] at HQ hs
    rw [← hk] at HP
    rw [← hg, ← hk]
    have HG : Hid (w.heap.size ≤ g) := by show _ ≤ _; omega
    clear hg hk
    refine (HV.out k w2 HP.out HB.out).mono ?_
    rintro e' w3 ⟨rfl, n, rfl⟩
    obtain ⟨k0, k1, k2⟩ := HP.out
    obtain ⟨c0, c1, c2⟩ := HQ.out
    go_wp2
    first
      | exact bodyPost_ret (v := .tuple #[profV nilS nilS nilS, .bool false]) (by simp [results, Tryd.results39, go_sem, *]) rfl (GiveP.no (by repeat (first | exact HB.out | refine Below.setCell ?_ HG.out _ | refine below_drewN ?_ _)))
      | exact bodyPost_ret (v := .tuple #[profV (.slice pa a.length ca) (.slice pl l.length cl) (.slice pd d.length cd), .bool true]) (by simp [results, Tryd.results39, go_sem, *]) rfl (GiveP.ok (by repeat (first | exact HB.out | refine Below.setCell ?_ HG.out _ | refine below_drewN ?_ _)))
set_option maxHeartbeats 1000000 in
theorem i_checkedProfile (va vl vd : Value) (a l d : List Nat) (w : World) (ha : RF w va a) (hl : RF w vl l) (hd : RF w vd d) : Calls Tryd.prog 25 #[profV va vl vd] w (GiveP (profOk a l d) va vl vd w) := by
  have HV := Lib.hid (fun W (hb : Below w.heap.size w W) => i_ValidProfile va vl vd a l d W (RF_below ha hb) (RF_below hl hb) (RF_below hd hb))
  obtain ⟨pa, ca, rfl, -, -⟩ := ha
  obtain ⟨pl, cl, rfl, -, -⟩ := hl
  obtain ⟨pd, cd, rfl, -, -⟩ := hd
  generalize profOk a l d = ok at *
  cases ok
  all_goals
    go_enter Tryd.func25, Tryd.ntmps25
    go_wp2_with fail
    obtain ⟨w2, hw2⟩ : ∃ w2, w2 = (w.alloc (.cells #[(.slice pa a.length ca), (.slice pl l.length cl), (.slice pd d.length cd)] 31)).alloc (.cells #[nilS, nilS, nilS] 31) := ⟨_, rfl⟩
    have HB : Hid (Below w.heap.size w w2) := by rw [hw2]; exact (by repeat (first | exact Below.refl _ _ | assumption | refine below_drewN ?_ _ | refine below_alloc (Nat.le_refl _) ?_ _ | (refine Below.setCell ?_ (by first | exact Nat.le_refl _ | (simp; done) | (simp; omega) | omega) _) | (refine below_step (Nat.le_refl _) ?_ (by assumption))))
    have HP : Hid (ProfAt w2 w.heap.size (.slice pa a.length ca) (.slice pl l.length cl) (.slice pd d.length cd)) := by rw [hw2]; exact (prof_top w _ rfl (.slice pa a.length ca) (.slice pl l.length cl) (.slice pd d.length cd) _).below (below_alloc (Nat.le_refl _) (Below.refl _ _) _)
    have HQ : Hid (ProfAt w2 (w.heap.size + 1) nilS nilS nilS) := by rw [hw2]; exact prof_top _ _ (by simp) _ _ _ _
    have HS : Hid (∀ j, w2.frozen? ⟨w.heap.size + 1, j, none⟩ = false) := by rw [hw2]; exact softR _ _ (by simp) _ _
    rw [← hw2]
    clear hw2
    obtain ⟨g, hg⟩ : ∃ g, g = w.heap.size + 1 := ⟨_, rfl⟩
    obtain ⟨k, hk⟩ : ∃ k, k = w.heap.size := ⟨_, rfl⟩
    rw [← hg] at HQ HS
    rw [← hk] at HP
    rw [← hg, ← hk]
    have HG : Hid (w.heap.size ≤ g) := by show _ ≤ _; omega
    clear hg hk
    refine (HV.out w2 HB.out).mono ?_
    rintro e' w3 ⟨rfl, hb⟩
    have HB3 := Lib.hid (below_step (Nat.le_refl _) HB.out hb)
    have hs : ∀ j, w3.frozen? ⟨g, j, none⟩ = false := fun j => (hb.frozen (p := ⟨g, j, none⟩) (show g < _ from block_lt_of_cell HQ.out.1)).trans (HS.out j)
    obtain ⟨k0, k1, k2⟩ := HP.out.below hb
    obtain ⟨c0, c1, c2⟩ := HQ.out.below hb
    clear hb HV HP HQ HS HB
    go_wp2
    first
      | exact bodyPost_ret (v := .tuple #[profV nilS nilS nilS, .bool false]) (by simp [results, Tryd.results25, go_sem, *]) rfl (GiveP.no (by repeat (first | exact HB3.out | refine Below.setCell ?_ HG.out _ | refine below_drewN ?_ _)))
      | exact bodyPost_ret (v := .tuple #[profV (.slice pa a.length ca) (.slice pl l.length cl) (.slice pd d.length cd), .bool true]) (by simp [results, Tryd.results25, go_sem, *]) rfl (GiveP.ok (by repeat (first | exact HB3.out | refine Below.setCell ?_ HG.out _ | refine below_drewN ?_ _)))
end Go.Proofs.YtpkkgfjjnggijaaDoor
