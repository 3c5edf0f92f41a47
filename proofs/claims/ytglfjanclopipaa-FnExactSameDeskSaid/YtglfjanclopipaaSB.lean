/- Walks: the same profiles, airs, plants, drives, farms. -/
import Derived.Test.YtglfjanclopipaaSA
import Derived.Test.YtglfjanclopipaaDC
import Derived.Test.YtglfjanclopipaaHQ
namespace Go.Proofs.Ytglfjanclopipaa
set_option linter.unusedSimpArgs false
set_option linter.unusedVariables false
open Go.RowKit Go.Fl Go.Lib

theorem toBelow {f : FuncId} {args : Array Value} {W : World} {v : Value} (h : Calls Try.prog f args W fun e w' => e = .returned v ∧ ∃ n, w' = W.drewN n) : Calls Try.prog f args W fun e w' => e = .returned v ∧ Below W.heap.size W w' :=
  h.mono fun _ _ ⟨he, hn⟩ => ⟨he, quiet_below hn⟩
def sameProf (a l d a' l' d' : List Nat) : Bool := sameNs a a' && sameNs l l' && sameNs d d'
def sameAir (A0 A1 A2 A3 B0 B1 B2 B3 : Nat) : Bool := same32 A0 B0 && same32 A1 B1 && same32 A2 B2 && same32 A3 B3
def samePl (P0 P1 P2 P3 P4 P5 P6 P7 Q0 Q1 Q2 Q3 Q4 Q5 Q6 Q7 : Nat) : Bool := same32 P0 Q0 && same32 P1 Q1 && same32 P2 Q2 && same32 P3 Q3 && same32 P4 Q4 && same32 P5 Q5 && same32 P6 Q6 && same32 P7 Q7
def sameDrv (P0 P1 P2 P3 P4 P5 P6 P7 : Nat) (st : Int) (sp pi en : Nat) (Q0 Q1 Q2 Q3 Q4 Q5 Q6 Q7 : Nat) (st' : Int) (sp' pi' en' : Nat) : Bool := samePl P0 P1 P2 P3 P4 P5 P6 P7 Q0 Q1 Q2 Q3 Q4 Q5 Q6 Q7 && (st == st') && same32 sp sp' && same32 pi pi' && same32 en en'
def sameFarm (x y : List Nat) (r d s : Nat) (x' y' : List Nat) (r' d' s' : Nat) : Bool := sameNs x x' && sameNs y y' && same32 r r' && same32 d d' && same32 s s'
theorem samePl_list (P0 P1 P2 P3 P4 P5 P6 P7 Q0 Q1 Q2 Q3 Q4 Q5 Q6 Q7 : Nat) : sameNs [P0, P1, P2, P3, P4, P5, P6, P7] [Q0, Q1, Q2, Q3, Q4, Q5, Q6, Q7] = samePl P0 P1 P2 P3 P4 P5 P6 P7 Q0 Q1 Q2 Q3 Q4 Q5 Q6 Q7 := by
  unfold sameNs samePl
  simp only [pairs, Bool.and_true, Bool.and_assoc]
set_option maxRecDepth 100000 in
set_option maxHeartbeats 2000000 in
theorem i_SameProfile (va vl vd va' vl' vd' : Value) (a l d a' l' d' : List Nat) (w : World) (ha : RF w va a) (ta : Bd a) (hl : RF w vl l) (tl : Bd l) (hd : RF w vd d) (td : Bd d) (ha' : RF w va' a') (ta' : Bd a') (hl' : RF w vl' l') (tl' : Bd l') (hd' : RF w vd' d') (td' : Bd d') : Calls Try.prog 65 #[.agg #[va, vl, vd], .agg #[va', vl', vd']] w fun e' w' => e' = .returned (.bool (sameProf a l d a' l' d')) ∧ Below w.heap.size w w' := by
  have H0 := Lib.hid (fun W (hb : Below w.heap.size w W) => toBelow (i_sameNumbers va va' a a' W (RF_below ha hb) (RF_below ha' hb) ta ta'))
  have H1 := Lib.hid (fun W (hb : Below w.heap.size w W) => toBelow (i_sameNumbers vl vl' l l' W (RF_below hl hb) (RF_below hl' hb) tl tl'))
  have H2 := Lib.hid (fun W (hb : Below w.heap.size w W) => toBelow (i_sameNumbers vd vd' d d' W (RF_below hd hb) (RF_below hd' hb) td td'))
  have hdef : Hid (sameProf a l d a' l' d' = (sameNs a a' && sameNs l l' && sameNs d d')) := rfl
  clear ha ta hl tl hd td ha' ta' hl' tl' hd' td'
  generalize sameProf a l d a' l' d' = D at *
  generalize sameNs a a' = K0 at *
  generalize sameNs l l' = K1 at *
  generalize sameNs d d' = K2 at *
  go_enter Try.func65, Try.ntmps65
  go_wp2_with fail
  obtain ⟨w0, hw0⟩ : ∃ w0, w0 = ((w.alloc (.cells #[va, vl, vd] 41)).alloc (.cells #[va', vl', vd'] 41)) := ⟨_, rfl⟩
  have HB : Hid (Below w.heap.size w w0) := by rw [hw0]; exact (by repeat (first | exact Below.refl _ _ | assumption | refine below_drewN ?_ _ | refine below_alloc (Nat.le_refl _) ?_ _ | (refine Below.setCell ?_ (by first | exact Nat.le_refl _ | (simp; done) | (simp; omega) | omega) _) | (refine below_step (Nat.le_refl _) ?_ (by assumption))))
  have R1 : Hid (Row w0 w.heap.size [va, vl, vd]) := by rw [hw0]; exact (row_top w _ rfl #[va, vl, vd] 41).below (below_alloc (Nat.le_refl _) (Below.refl _ _) _)
  have R2 : Hid (Row w0 (w.heap.size + 1) [va', vl', vd']) := by rw [hw0]; exact row_top _ _ (by simp) #[va', vl', vd'] 41
  rw [← hw0]
  clear hw0
  refine (H0.out _ HB.out).mono ?_
  rintro e' w1 ⟨rfl, hb⟩
  replace HB := Lib.hid (below_step (Nat.le_refl _) HB.out hb)
  replace R1 := Lib.hid (R1.out.below hb)
  replace R2 := Lib.hid (R2.out.below hb)
  clear hb H0
  cases K0
  · have e0 : Hid (D = false) := by show _ = _; rw [hdef.out]; simp only [Bool.false_and, Bool.and_false, Bool.and_true, Bool.true_and]
    go_wp2
    go_ret
    exact ⟨by rw [e0.out]; rfl, HB.out⟩
  have a1 := R1.out 1 _ rfl
  have b1 := R2.out 1 _ rfl
  go_wp2_with fail
  clear a1 b1
  refine (H1.out _ HB.out).mono ?_
  rintro e' w2 ⟨rfl, hb⟩
  replace HB := Lib.hid (below_step (Nat.le_refl _) HB.out hb)
  replace R1 := Lib.hid (R1.out.below hb)
  replace R2 := Lib.hid (R2.out.below hb)
  clear hb H1
  cases K1
  · have e0 : Hid (D = false) := by show _ = _; rw [hdef.out]; simp only [Bool.false_and, Bool.and_false, Bool.and_true, Bool.true_and]
    go_wp2
    go_ret
    exact ⟨by rw [e0.out]; rfl, HB.out⟩
  have a2 := R1.out 2 _ rfl
  have b2 := R2.out 2 _ rfl
  go_wp2_with fail
  clear a2 b2
  refine (H2.out _ HB.out).mono ?_
  rintro e' w3 ⟨rfl, hb⟩
  replace HB := Lib.hid (below_step (Nat.le_refl _) HB.out hb)
  replace R1 := Lib.hid (R1.out.below hb)
  replace R2 := Lib.hid (R2.out.below hb)
  clear hb H2
  cases K2
  · have e0 : Hid (D = false) := by show _ = _; rw [hdef.out]; simp only [Bool.false_and, Bool.and_false, Bool.and_true, Bool.true_and]
    go_wp2
    go_ret
    exact ⟨by rw [e0.out]; rfl, HB.out⟩
  have e0 : Hid (D = true) := by show _ = _; rw [hdef.out]; rfl
  go_wp2
  go_ret
  exact ⟨by rw [e0.out]; rfl, HB.out⟩
set_option maxRecDepth 100000 in
set_option maxHeartbeats 2000000 in
theorem i_SameAir (A0 A1 A2 A3 B0 B1 B2 B3 : Nat) (w : World) (bd : Bd [A0, A1, A2, A3, B0, B1, B2, B3]) : Calls Try.prog 28 #[.agg #[.float .f32 A0, .float .f32 A1, .float .f32 A2, .float .f32 A3], .agg #[.float .f32 B0, .float .f32 B1, .float .f32 B2, .float .f32 B3]] w fun e' w' => e' = .returned (.bool (sameAir A0 A1 A2 A3 B0 B1 B2 B3)) ∧ Below w.heap.size w w' := by
  have H0 := Lib.hid (fun W (hb : Below w.heap.size w W) => toBelow (i_SameNumber A0 B0 W (bd _ (by simp)) (bd _ (by simp))))
  have H1 := Lib.hid (fun W (hb : Below w.heap.size w W) => toBelow (i_SameNumber A1 B1 W (bd _ (by simp)) (bd _ (by simp))))
  have H2 := Lib.hid (fun W (hb : Below w.heap.size w W) => toBelow (i_SameNumber A2 B2 W (bd _ (by simp)) (bd _ (by simp))))
  have H3 := Lib.hid (fun W (hb : Below w.heap.size w W) => toBelow (i_SameNumber A3 B3 W (bd _ (by simp)) (bd _ (by simp))))
  have hdef : Hid (sameAir A0 A1 A2 A3 B0 B1 B2 B3 = (same32 A0 B0 && same32 A1 B1 && same32 A2 B2 && same32 A3 B3)) := rfl
  clear bd
  generalize sameAir A0 A1 A2 A3 B0 B1 B2 B3 = D at *
  generalize same32 A0 B0 = K0 at *
  generalize same32 A1 B1 = K1 at *
  generalize same32 A2 B2 = K2 at *
  generalize same32 A3 B3 = K3 at *
  go_enter Try.func28, Try.ntmps28
  go_wp2_with fail
  obtain ⟨w0, hw0⟩ : ∃ w0, w0 = ((w.alloc (.cells #[.float .f32 A0, .float .f32 A1, .float .f32 A2, .float .f32 A3] 45)).alloc (.cells #[.float .f32 B0, .float .f32 B1, .float .f32 B2, .float .f32 B3] 45)) := ⟨_, rfl⟩
  have HB : Hid (Below w.heap.size w w0) := by rw [hw0]; exact (by repeat (first | exact Below.refl _ _ | assumption | refine below_drewN ?_ _ | refine below_alloc (Nat.le_refl _) ?_ _ | (refine Below.setCell ?_ (by first | exact Nat.le_refl _ | (simp; done) | (simp; omega) | omega) _) | (refine below_step (Nat.le_refl _) ?_ (by assumption))))
  have R1 : Hid (Row w0 w.heap.size [.float .f32 A0, .float .f32 A1, .float .f32 A2, .float .f32 A3]) := by rw [hw0]; exact (row_top w _ rfl #[.float .f32 A0, .float .f32 A1, .float .f32 A2, .float .f32 A3] 45).below (below_alloc (Nat.le_refl _) (Below.refl _ _) _)
  have R2 : Hid (Row w0 (w.heap.size + 1) [.float .f32 B0, .float .f32 B1, .float .f32 B2, .float .f32 B3]) := by rw [hw0]; exact row_top _ _ (by simp) #[.float .f32 B0, .float .f32 B1, .float .f32 B2, .float .f32 B3] 45
  rw [← hw0]
  clear hw0
  refine (H0.out _ HB.out).mono ?_
  rintro e' w1 ⟨rfl, hb⟩
  replace HB := Lib.hid (below_step (Nat.le_refl _) HB.out hb)
  replace R1 := Lib.hid (R1.out.below hb)
  replace R2 := Lib.hid (R2.out.below hb)
  clear hb H0
  cases K0
  · have e0 : Hid (D = false) := by show _ = _; rw [hdef.out]; simp only [Bool.false_and, Bool.and_false, Bool.and_true, Bool.true_and]
    go_wp2
    go_ret
    exact ⟨by rw [e0.out]; rfl, HB.out⟩
  have a1 := R1.out 1 _ rfl
  have b1 := R2.out 1 _ rfl
  go_wp2_with fail
  clear a1 b1
  refine (H1.out _ HB.out).mono ?_
  rintro e' w2 ⟨rfl, hb⟩
  replace HB := Lib.hid (below_step (Nat.le_refl _) HB.out hb)
  replace R1 := Lib.hid (R1.out.below hb)
  replace R2 := Lib.hid (R2.out.below hb)
  clear hb H1
  cases K1
  · have e0 : Hid (D = false) := by show _ = _; rw [hdef.out]; simp only [Bool.false_and, Bool.and_false, Bool.and_true, Bool.true_and]
    go_wp2
    go_ret
    exact ⟨by rw [e0.out]; rfl, HB.out⟩
  have a2 := R1.out 2 _ rfl
  have b2 := R2.out 2 _ rfl
  go_wp2_with fail
  clear a2 b2
  refine (H2.out _ HB.out).mono ?_
  rintro e' w3 ⟨rfl, hb⟩
  replace HB := Lib.hid (below_step (Nat.le_refl _) HB.out hb)
  replace R1 := Lib.hid (R1.out.below hb)
  replace R2 := Lib.hid (R2.out.below hb)
  clear hb H2
  cases K2
  · have e0 : Hid (D = false) := by show _ = _; rw [hdef.out]; simp only [Bool.false_and, Bool.and_false, Bool.and_true, Bool.true_and]
    go_wp2
    go_ret
    exact ⟨by rw [e0.out]; rfl, HB.out⟩
  have a3 := R1.out 3 _ rfl
  have b3 := R2.out 3 _ rfl
  go_wp2_with fail
  clear a3 b3
  refine (H3.out _ HB.out).mono ?_
  rintro e' w4 ⟨rfl, hb⟩
  replace HB := Lib.hid (below_step (Nat.le_refl _) HB.out hb)
  replace R1 := Lib.hid (R1.out.below hb)
  replace R2 := Lib.hid (R2.out.below hb)
  clear hb H3
  cases K3
  · have e0 : Hid (D = false) := by show _ = _; rw [hdef.out]; simp only [Bool.false_and, Bool.and_false, Bool.and_true, Bool.true_and]
    go_wp2
    go_ret
    exact ⟨by rw [e0.out]; rfl, HB.out⟩
  have e0 : Hid (D = true) := by show _ = _; rw [hdef.out]; rfl
  go_wp2
  go_ret
  exact ⟨by rw [e0.out]; rfl, HB.out⟩
set_option maxRecDepth 100000 in
set_option maxHeartbeats 2000000 in
theorem i_SameFarm (vx vy vx' vy' : Value) (x y : List Nat) (r d s : Nat) (x' y' : List Nat) (r' d' s' : Nat) (w : World) (hx : RF w vx x) (tx : Bd x) (hy : RF w vy y) (ty : Bd y) (hx' : RF w vx' x') (tx' : Bd x') (hy' : RF w vy' y') (ty' : Bd y') (bd : Bd [r, d, s, r', d', s']) : Calls Try.prog 30 #[.agg #[vx, vy, .float .f32 r, .float .f32 d, .float .f32 s], .agg #[vx', vy', .float .f32 r', .float .f32 d', .float .f32 s']] w fun e' w' => e' = .returned (.bool (sameFarm x y r d s x' y' r' d' s')) ∧ Below w.heap.size w w' := by
  have H0 := Lib.hid (fun W (hb : Below w.heap.size w W) => toBelow (i_sameNumbers vx vx' x x' W (RF_below hx hb) (RF_below hx' hb) tx tx'))
  have H1 := Lib.hid (fun W (hb : Below w.heap.size w W) => toBelow (i_sameNumbers vy vy' y y' W (RF_below hy hb) (RF_below hy' hb) ty ty'))
  have H2 := Lib.hid (fun W (hb : Below w.heap.size w W) => toBelow (i_SameNumber r r' W (bd _ (by simp)) (bd _ (by simp))))
  have H3 := Lib.hid (fun W (hb : Below w.heap.size w W) => toBelow (i_SameNumber d d' W (bd _ (by simp)) (bd _ (by simp))))
  have H4 := Lib.hid (fun W (hb : Below w.heap.size w W) => toBelow (i_SameNumber s s' W (bd _ (by simp)) (bd _ (by simp))))
  have hdef : Hid (sameFarm x y r d s x' y' r' d' s' = (sameNs x x' && sameNs y y' && same32 r r' && same32 d d' && same32 s s')) := rfl
  clear hx tx hy ty hx' tx' hy' ty' bd
  generalize sameFarm x y r d s x' y' r' d' s' = D at *
  generalize sameNs x x' = K0 at *
  generalize sameNs y y' = K1 at *
  generalize same32 r r' = K2 at *
  generalize same32 d d' = K3 at *
  generalize same32 s s' = K4 at *
  go_enter Try.func30, Try.ntmps30
  go_wp2_with fail
  obtain ⟨w0, hw0⟩ : ∃ w0, w0 = ((w.alloc (.cells #[vx, vy, .float .f32 r, .float .f32 d, .float .f32 s] 49)).alloc (.cells #[vx', vy', .float .f32 r', .float .f32 d', .float .f32 s'] 49)) := ⟨_, rfl⟩
  have HB : Hid (Below w.heap.size w w0) := by rw [hw0]; exact (by repeat (first | exact Below.refl _ _ | assumption | refine below_drewN ?_ _ | refine below_alloc (Nat.le_refl _) ?_ _ | (refine Below.setCell ?_ (by first | exact Nat.le_refl _ | (simp; done) | (simp; omega) | omega) _) | (refine below_step (Nat.le_refl _) ?_ (by assumption))))
  have R1 : Hid (Row w0 w.heap.size [vx, vy, .float .f32 r, .float .f32 d, .float .f32 s]) := by rw [hw0]; exact (row_top w _ rfl #[vx, vy, .float .f32 r, .float .f32 d, .float .f32 s] 49).below (below_alloc (Nat.le_refl _) (Below.refl _ _) _)
  have R2 : Hid (Row w0 (w.heap.size + 1) [vx', vy', .float .f32 r', .float .f32 d', .float .f32 s']) := by rw [hw0]; exact row_top _ _ (by simp) #[vx', vy', .float .f32 r', .float .f32 d', .float .f32 s'] 49
  rw [← hw0]
  clear hw0
  refine (H0.out _ HB.out).mono ?_
  rintro e' w1 ⟨rfl, hb⟩
  replace HB := Lib.hid (below_step (Nat.le_refl _) HB.out hb)
  replace R1 := Lib.hid (R1.out.below hb)
  replace R2 := Lib.hid (R2.out.below hb)
  clear hb H0
  cases K0
  · have e0 : Hid (D = false) := by show _ = _; rw [hdef.out]; simp only [Bool.false_and, Bool.and_false, Bool.and_true, Bool.true_and]
    go_wp2
    go_ret
    exact ⟨by rw [e0.out]; rfl, HB.out⟩
  have a1 := R1.out 1 _ rfl
  have b1 := R2.out 1 _ rfl
  go_wp2_with fail
  clear a1 b1
  refine (H1.out _ HB.out).mono ?_
  rintro e' w2 ⟨rfl, hb⟩
  replace HB := Lib.hid (below_step (Nat.le_refl _) HB.out hb)
  replace R1 := Lib.hid (R1.out.below hb)
  replace R2 := Lib.hid (R2.out.below hb)
  clear hb H1
  cases K1
  · have e0 : Hid (D = false) := by show _ = _; rw [hdef.out]; simp only [Bool.false_and, Bool.and_false, Bool.and_true, Bool.true_and]
    go_wp2
    go_ret
    exact ⟨by rw [e0.out]; rfl, HB.out⟩
  have a2 := R1.out 2 _ rfl
  have b2 := R2.out 2 _ rfl
  go_wp2_with fail
  clear a2 b2
  refine (H2.out _ HB.out).mono ?_
  rintro e' w3 ⟨rfl, hb⟩
  replace HB := Lib.hid (below_step (Nat.le_refl _) HB.out hb)
  replace R1 := Lib.hid (R1.out.below hb)
  replace R2 := Lib.hid (R2.out.below hb)
  clear hb H2
  cases K2
  · have e0 : Hid (D = false) := by show _ = _; rw [hdef.out]; simp only [Bool.false_and, Bool.and_false, Bool.and_true, Bool.true_and]
    go_wp2
    go_ret
    exact ⟨by rw [e0.out]; rfl, HB.out⟩
  have a3 := R1.out 3 _ rfl
  have b3 := R2.out 3 _ rfl
  go_wp2_with fail
  clear a3 b3
  refine (H3.out _ HB.out).mono ?_
  rintro e' w4 ⟨rfl, hb⟩
  replace HB := Lib.hid (below_step (Nat.le_refl _) HB.out hb)
  replace R1 := Lib.hid (R1.out.below hb)
  replace R2 := Lib.hid (R2.out.below hb)
  clear hb H3
  cases K3
  · have e0 : Hid (D = false) := by show _ = _; rw [hdef.out]; simp only [Bool.false_and, Bool.and_false, Bool.and_true, Bool.true_and]
    go_wp2
    go_ret
    exact ⟨by rw [e0.out]; rfl, HB.out⟩
  have a4 := R1.out 4 _ rfl
  have b4 := R2.out 4 _ rfl
  go_wp2_with fail
  clear a4 b4
  refine (H4.out _ HB.out).mono ?_
  rintro e' w5 ⟨rfl, hb⟩
  replace HB := Lib.hid (below_step (Nat.le_refl _) HB.out hb)
  replace R1 := Lib.hid (R1.out.below hb)
  replace R2 := Lib.hid (R2.out.below hb)
  clear hb H4
  cases K4
  · have e0 : Hid (D = false) := by show _ = _; rw [hdef.out]; simp only [Bool.false_and, Bool.and_false, Bool.and_true, Bool.true_and]
    go_wp2
    go_ret
    exact ⟨by rw [e0.out]; rfl, HB.out⟩
  have e0 : Hid (D = true) := by show _ = _; rw [hdef.out]; rfl
  go_wp2
  go_ret
  exact ⟨by rw [e0.out]; rfl, HB.out⟩
set_option maxRecDepth 100000 in
set_option maxHeartbeats 2000000 in
theorem s_l02Same (g q : Nat) (va vl vd va' vl' vd' : Value) (a l d a' l' d' : List Nat) (w : World) (ha : RF w va a) (ta : Bd a) (hl : RF w vl l) (tl : Bd l) (hd : RF w vd d) (td : Bd d) (ha' : RF w va' a') (ta' : Bd a') (hl' : RF w vl' l') (tl' : Bd l') (hd' : RF w vd' d') (td' : Bd d') (hg : ProfAt w g va vl vd) (hq : ProfAt w q va' vl' vd') : Calls Try.prog 109 #[.pointer (some ⟨g, 0, none⟩), .pointer (some ⟨q, 0, none⟩)] w fun e' w' => e' = .returned (.bool (sameProf a l d a' l' d')) ∧ Below w.heap.size w w' := by
  have H0 := Lib.hid (fun W (hb : Below w.heap.size w W) => toBelow (s_l01SameAll va va' a a' W (RF_below ha hb) (RF_below ha' hb) ta ta'))
  have H1 := Lib.hid (fun W (hb : Below w.heap.size w W) => toBelow (s_l01SameAll vl vl' l l' W (RF_below hl hb) (RF_below hl' hb) tl tl'))
  have H2 := Lib.hid (fun W (hb : Below w.heap.size w W) => toBelow (s_l01SameAll vd vd' d d' W (RF_below hd hb) (RF_below hd' hb) td td'))
  have hdef : Hid (sameProf a l d a' l' d' = (sameNs a a' && sameNs l l' && sameNs d d')) := rfl
  obtain ⟨c0, c1, c2⟩ := hg
  obtain ⟨d0, d1, d2⟩ := hq
  have kc0 := cell_regrown c0
  have kd0 := cell_regrown d0
  have kc1 := cell_regrown c1
  have kd1 := cell_regrown d1
  have kc2 := cell_regrown c2
  have kd2 := cell_regrown d2
  clear ha ta hl tl hd td ha' ta' hl' tl' hd' td'
  generalize sameProf a l d a' l' d' = D at *
  generalize sameNs a a' = K0 at *
  generalize sameNs l l' = K1 at *
  generalize sameNs d d' = K2 at *
  cases K0
  · have e0 : Hid (D = false) := by show _ = _; rw [hdef.out]; simp only [Bool.false_and, Bool.and_false, Bool.and_true, Bool.true_and]
    have X0 := Lib.hid (fun d os => Calls.regrown_of (H0.out _ (below_regrown w d os)))
    clear H0 H1 H2
    go_enter Try.func109, Try.ntmps109
    go_wp2_with fail
    refine wp_region_quiet_below (by kernel_rfl) (by kernel_rfl) ?_
    repeat (go_big_quiet_step (first | with_reducible exact X0.out _ _))
    refine wpQuiet_nil ?_
    intro _ hw'
    obtain ⟨⟨dq, osq⟩, hw''⟩ := hw'
    subst hw''
    go_wp2
    go_ret
    exact ⟨by rw [e0.out]; rfl, below_regrown w dq osq⟩
  cases K1
  · have e0 : Hid (D = false) := by show _ = _; rw [hdef.out]; simp only [Bool.false_and, Bool.and_false, Bool.and_true, Bool.true_and]
    have X0 := Lib.hid (fun d os => Calls.regrown_of (H0.out _ (below_regrown w d os)))
    have X1 := Lib.hid (fun d os => Calls.regrown_of (H1.out _ (below_regrown w d os)))
    clear H0 H1 H2
    go_enter Try.func109, Try.ntmps109
    go_wp2_with fail
    refine wp_region_quiet_below (by kernel_rfl) (by kernel_rfl) ?_
    repeat (go_big_quiet_step (first | with_reducible exact X0.out _ _ | with_reducible exact X1.out _ _))
    refine wpQuiet_nil ?_
    intro _ hw'
    obtain ⟨⟨dq, osq⟩, hw''⟩ := hw'
    subst hw''
    go_wp2
    go_ret
    exact ⟨by rw [e0.out]; rfl, below_regrown w dq osq⟩
  cases K2
  · have e0 : Hid (D = false) := by show _ = _; rw [hdef.out]; simp only [Bool.false_and, Bool.and_false, Bool.and_true, Bool.true_and]
    have X0 := Lib.hid (fun d os => Calls.regrown_of (H0.out _ (below_regrown w d os)))
    have X1 := Lib.hid (fun d os => Calls.regrown_of (H1.out _ (below_regrown w d os)))
    have X2 := Lib.hid (fun d os => Calls.regrown_of (H2.out _ (below_regrown w d os)))
    clear H0 H1 H2
    go_enter Try.func109, Try.ntmps109
    go_wp2_with fail
    refine wp_region_quiet_below (by kernel_rfl) (by kernel_rfl) ?_
    repeat (go_big_quiet_step (first | with_reducible exact X0.out _ _ | with_reducible exact X1.out _ _ | with_reducible exact X2.out _ _))
    refine wpQuiet_nil ?_
    intro _ hw'
    obtain ⟨⟨dq, osq⟩, hw''⟩ := hw'
    subst hw''
    go_wp2
    go_ret
    exact ⟨by rw [e0.out]; rfl, below_regrown w dq osq⟩
  have e0 : Hid (D = true) := by show _ = _; rw [hdef.out]; rfl
  have X0 := Lib.hid (fun d os => Calls.regrown_of (H0.out _ (below_regrown w d os)))
  have X1 := Lib.hid (fun d os => Calls.regrown_of (H1.out _ (below_regrown w d os)))
  have X2 := Lib.hid (fun d os => Calls.regrown_of (H2.out _ (below_regrown w d os)))
  clear H0 H1 H2
  go_enter Try.func109, Try.ntmps109
  go_wp2_with fail
  refine wp_region_quiet_below (by kernel_rfl) (by kernel_rfl) ?_
  repeat (go_big_quiet_step (first | with_reducible exact X0.out _ _ | with_reducible exact X1.out _ _ | with_reducible exact X2.out _ _))
  refine wpQuiet_nil ?_
  intro _ hw'
  obtain ⟨⟨dq, osq⟩, hw''⟩ := hw'
  subst hw''
  go_wp2
  go_ret
  exact ⟨by rw [e0.out]; rfl, below_regrown w dq osq⟩
set_option maxRecDepth 100000 in
set_option maxHeartbeats 2000000 in
theorem s_l04Same (g o q p : Nat) (A0 A1 A2 A3 B0 B1 B2 B3 : Nat) (w : World) (bd : Bd [A0, A1, A2, A3, B0, B1, B2, B3]) (hg : AirAtO w g o A0 A1 A2 A3) (hq : AirAtO w q p B0 B1 B2 B3) : Calls Try.prog 20 #[.pointer (some ⟨g, o, none⟩), .pointer (some ⟨q, p, none⟩)] w fun e' w' => e' = .returned (.bool (sameAir A0 A1 A2 A3 B0 B1 B2 B3)) ∧ Below w.heap.size w w' := by
  have H0 := Lib.hid (fun W (hb : Below w.heap.size w W) => toBelow (s_l01Same A0 B0 W (bd _ (by simp)) (bd _ (by simp))))
  have H1 := Lib.hid (fun W (hb : Below w.heap.size w W) => toBelow (s_l01Same A1 B1 W (bd _ (by simp)) (bd _ (by simp))))
  have H2 := Lib.hid (fun W (hb : Below w.heap.size w W) => toBelow (s_l01Same A2 B2 W (bd _ (by simp)) (bd _ (by simp))))
  have H3 := Lib.hid (fun W (hb : Below w.heap.size w W) => toBelow (s_l01Same A3 B3 W (bd _ (by simp)) (bd _ (by simp))))
  have hdef : Hid (sameAir A0 A1 A2 A3 B0 B1 B2 B3 = (same32 A0 B0 && same32 A1 B1 && same32 A2 B2 && same32 A3 B3)) := rfl
  obtain ⟨c0, c1, c2, c3⟩ := hg
  obtain ⟨d0, d1, d2, d3⟩ := hq
  have kc0 := cell_regrown c0
  have kd0 := cell_regrown d0
  have kc1 := cell_regrown c1
  have kd1 := cell_regrown d1
  have kc2 := cell_regrown c2
  have kd2 := cell_regrown d2
  have kc3 := cell_regrown c3
  have kd3 := cell_regrown d3
  clear bd
  generalize sameAir A0 A1 A2 A3 B0 B1 B2 B3 = D at *
  generalize same32 A0 B0 = K0 at *
  generalize same32 A1 B1 = K1 at *
  generalize same32 A2 B2 = K2 at *
  generalize same32 A3 B3 = K3 at *
  cases K0
  · have e0 : Hid (D = false) := by show _ = _; rw [hdef.out]; simp only [Bool.false_and, Bool.and_false, Bool.and_true, Bool.true_and]
    have X0 := Lib.hid (fun d os => Calls.regrown_of (H0.out _ (below_regrown w d os)))
    clear H0 H1 H2 H3
    go_enter Try.func20, Try.ntmps20
    go_wp2_with fail
    refine wp_region_quiet_below (by kernel_rfl) (by kernel_rfl) ?_
    repeat (go_big_quiet_step (first | with_reducible exact X0.out _ _))
    refine wpQuiet_nil ?_
    intro _ hw'
    obtain ⟨⟨dq, osq⟩, hw''⟩ := hw'
    subst hw''
    go_wp2
    go_ret
    exact ⟨by rw [e0.out]; rfl, below_regrown w dq osq⟩
  cases K1
  · have e0 : Hid (D = false) := by show _ = _; rw [hdef.out]; simp only [Bool.false_and, Bool.and_false, Bool.and_true, Bool.true_and]
    have X0 := Lib.hid (fun d os => Calls.regrown_of (H0.out _ (below_regrown w d os)))
    have X1 := Lib.hid (fun d os => Calls.regrown_of (H1.out _ (below_regrown w d os)))
    clear H0 H1 H2 H3
    go_enter Try.func20, Try.ntmps20
    go_wp2_with fail
    refine wp_region_quiet_below (by kernel_rfl) (by kernel_rfl) ?_
    repeat (go_big_quiet_step (first | with_reducible exact X0.out _ _ | with_reducible exact X1.out _ _))
    refine wpQuiet_nil ?_
    intro _ hw'
    obtain ⟨⟨dq, osq⟩, hw''⟩ := hw'
    subst hw''
    go_wp2
    go_ret
    exact ⟨by rw [e0.out]; rfl, below_regrown w dq osq⟩
  cases K2
  · have e0 : Hid (D = false) := by show _ = _; rw [hdef.out]; simp only [Bool.false_and, Bool.and_false, Bool.and_true, Bool.true_and]
    have X0 := Lib.hid (fun d os => Calls.regrown_of (H0.out _ (below_regrown w d os)))
    have X1 := Lib.hid (fun d os => Calls.regrown_of (H1.out _ (below_regrown w d os)))
    have X2 := Lib.hid (fun d os => Calls.regrown_of (H2.out _ (below_regrown w d os)))
    clear H0 H1 H2 H3
    go_enter Try.func20, Try.ntmps20
    go_wp2_with fail
    refine wp_region_quiet_below (by kernel_rfl) (by kernel_rfl) ?_
    repeat (go_big_quiet_step (first | with_reducible exact X0.out _ _ | with_reducible exact X1.out _ _ | with_reducible exact X2.out _ _))
    refine wpQuiet_nil ?_
    intro _ hw'
    obtain ⟨⟨dq, osq⟩, hw''⟩ := hw'
    subst hw''
    go_wp2
    go_ret
    exact ⟨by rw [e0.out]; rfl, below_regrown w dq osq⟩
  cases K3
  · have e0 : Hid (D = false) := by show _ = _; rw [hdef.out]; simp only [Bool.false_and, Bool.and_false, Bool.and_true, Bool.true_and]
    have X0 := Lib.hid (fun d os => Calls.regrown_of (H0.out _ (below_regrown w d os)))
    have X1 := Lib.hid (fun d os => Calls.regrown_of (H1.out _ (below_regrown w d os)))
    have X2 := Lib.hid (fun d os => Calls.regrown_of (H2.out _ (below_regrown w d os)))
    have X3 := Lib.hid (fun d os => Calls.regrown_of (H3.out _ (below_regrown w d os)))
    clear H0 H1 H2 H3
    go_enter Try.func20, Try.ntmps20
    go_wp2_with fail
    refine wp_region_quiet_below (by kernel_rfl) (by kernel_rfl) ?_
    repeat (go_big_quiet_step (first | with_reducible exact X0.out _ _ | with_reducible exact X1.out _ _ | with_reducible exact X2.out _ _ | with_reducible exact X3.out _ _))
    refine wpQuiet_nil ?_
    intro _ hw'
    obtain ⟨⟨dq, osq⟩, hw''⟩ := hw'
    subst hw''
    go_wp2
    go_ret
    exact ⟨by rw [e0.out]; rfl, below_regrown w dq osq⟩
  have e0 : Hid (D = true) := by show _ = _; rw [hdef.out]; rfl
  have X0 := Lib.hid (fun d os => Calls.regrown_of (H0.out _ (below_regrown w d os)))
  have X1 := Lib.hid (fun d os => Calls.regrown_of (H1.out _ (below_regrown w d os)))
  have X2 := Lib.hid (fun d os => Calls.regrown_of (H2.out _ (below_regrown w d os)))
  have X3 := Lib.hid (fun d os => Calls.regrown_of (H3.out _ (below_regrown w d os)))
  clear H0 H1 H2 H3
  go_enter Try.func20, Try.ntmps20
  go_wp2_with fail
  refine wp_region_quiet_below (by kernel_rfl) (by kernel_rfl) ?_
  repeat (go_big_quiet_step (first | with_reducible exact X0.out _ _ | with_reducible exact X1.out _ _ | with_reducible exact X2.out _ _ | with_reducible exact X3.out _ _))
  refine wpQuiet_nil ?_
  intro _ hw'
  obtain ⟨⟨dq, osq⟩, hw''⟩ := hw'
  subst hw''
  go_wp2
  go_ret
  exact ⟨by rw [e0.out]; rfl, below_regrown w dq osq⟩
set_option maxRecDepth 100000 in
set_option maxHeartbeats 2000000 in
theorem s_l06Same (g o q p : Nat) (vx vy vx' vy' : Value) (x y : List Nat) (r d s : Nat) (x' y' : List Nat) (r' d' s' : Nat) (w : World) (hx : RF w vx x) (tx : Bd x) (hy : RF w vy y) (ty : Bd y) (hx' : RF w vx' x') (tx' : Bd x') (hy' : RF w vy' y') (ty' : Bd y') (bd : Bd [r, d, s, r', d', s']) (hg : FarmAtO w g o vx vy r d s) (hq : FarmAtO w q p vx' vy' r' d' s') : Calls Try.prog 22 #[.pointer (some ⟨g, o, none⟩), .pointer (some ⟨q, p, none⟩)] w fun e' w' => e' = .returned (.bool (sameFarm x y r d s x' y' r' d' s')) ∧ Below w.heap.size w w' := by
  have H0 := Lib.hid (fun W (hb : Below w.heap.size w W) => toBelow (s_l01SameAll vx vx' x x' W (RF_below hx hb) (RF_below hx' hb) tx tx'))
  have H1 := Lib.hid (fun W (hb : Below w.heap.size w W) => toBelow (s_l01SameAll vy vy' y y' W (RF_below hy hb) (RF_below hy' hb) ty ty'))
  have H2 := Lib.hid (fun W (hb : Below w.heap.size w W) => toBelow (s_l01Same r r' W (bd _ (by simp)) (bd _ (by simp))))
  have H3 := Lib.hid (fun W (hb : Below w.heap.size w W) => toBelow (s_l01Same d d' W (bd _ (by simp)) (bd _ (by simp))))
  have H4 := Lib.hid (fun W (hb : Below w.heap.size w W) => toBelow (s_l01Same s s' W (bd _ (by simp)) (bd _ (by simp))))
  have hdef : Hid (sameFarm x y r d s x' y' r' d' s' = (sameNs x x' && sameNs y y' && same32 r r' && same32 d d' && same32 s s')) := rfl
  obtain ⟨c0, c1, c2, c3, c4⟩ := hg
  obtain ⟨d0, d1, d2, d3, d4⟩ := hq
  have kc0 := cell_regrown c0
  have kd0 := cell_regrown d0
  have kc1 := cell_regrown c1
  have kd1 := cell_regrown d1
  have kc2 := cell_regrown c2
  have kd2 := cell_regrown d2
  have kc3 := cell_regrown c3
  have kd3 := cell_regrown d3
  have kc4 := cell_regrown c4
  have kd4 := cell_regrown d4
  clear hx tx hy ty hx' tx' hy' ty' bd
  generalize sameFarm x y r d s x' y' r' d' s' = D at *
  generalize sameNs x x' = K0 at *
  generalize sameNs y y' = K1 at *
  generalize same32 r r' = K2 at *
  generalize same32 d d' = K3 at *
  generalize same32 s s' = K4 at *
  cases K0
  · have e0 : Hid (D = false) := by show _ = _; rw [hdef.out]; simp only [Bool.false_and, Bool.and_false, Bool.and_true, Bool.true_and]
    have X0 := Lib.hid (fun d os => Calls.regrown_of (H0.out _ (below_regrown w d os)))
    clear H0 H1 H2 H3 H4
    go_enter Try.func22, Try.ntmps22
    go_wp2_with fail
    refine wp_region_quiet_below (by kernel_rfl) (by kernel_rfl) ?_
    repeat (go_big_quiet_step (first | with_reducible exact X0.out _ _))
    refine wpQuiet_nil ?_
    intro _ hw'
    obtain ⟨⟨dq, osq⟩, hw''⟩ := hw'
    subst hw''
    go_wp2
    go_ret
    exact ⟨by rw [e0.out]; rfl, below_regrown w dq osq⟩
  cases K1
  · have e0 : Hid (D = false) := by show _ = _; rw [hdef.out]; simp only [Bool.false_and, Bool.and_false, Bool.and_true, Bool.true_and]
    have X0 := Lib.hid (fun d os => Calls.regrown_of (H0.out _ (below_regrown w d os)))
    have X1 := Lib.hid (fun d os => Calls.regrown_of (H1.out _ (below_regrown w d os)))
    clear H0 H1 H2 H3 H4
    go_enter Try.func22, Try.ntmps22
    go_wp2_with fail
    refine wp_region_quiet_below (by kernel_rfl) (by kernel_rfl) ?_
    repeat (go_big_quiet_step (first | with_reducible exact X0.out _ _ | with_reducible exact X1.out _ _))
    refine wpQuiet_nil ?_
    intro _ hw'
    obtain ⟨⟨dq, osq⟩, hw''⟩ := hw'
    subst hw''
    go_wp2
    go_ret
    exact ⟨by rw [e0.out]; rfl, below_regrown w dq osq⟩
  cases K2
  · have e0 : Hid (D = false) := by show _ = _; rw [hdef.out]; simp only [Bool.false_and, Bool.and_false, Bool.and_true, Bool.true_and]
    have X0 := Lib.hid (fun d os => Calls.regrown_of (H0.out _ (below_regrown w d os)))
    have X1 := Lib.hid (fun d os => Calls.regrown_of (H1.out _ (below_regrown w d os)))
    have X2 := Lib.hid (fun d os => Calls.regrown_of (H2.out _ (below_regrown w d os)))
    clear H0 H1 H2 H3 H4
    go_enter Try.func22, Try.ntmps22
    go_wp2_with fail
    refine wp_region_quiet_below (by kernel_rfl) (by kernel_rfl) ?_
    repeat (go_big_quiet_step (first | with_reducible exact X0.out _ _ | with_reducible exact X1.out _ _ | with_reducible exact X2.out _ _))
    refine wpQuiet_nil ?_
    intro _ hw'
    obtain ⟨⟨dq, osq⟩, hw''⟩ := hw'
    subst hw''
    go_wp2
    go_ret
    exact ⟨by rw [e0.out]; rfl, below_regrown w dq osq⟩
  cases K3
  · have e0 : Hid (D = false) := by show _ = _; rw [hdef.out]; simp only [Bool.false_and, Bool.and_false, Bool.and_true, Bool.true_and]
    have X0 := Lib.hid (fun d os => Calls.regrown_of (H0.out _ (below_regrown w d os)))
    have X1 := Lib.hid (fun d os => Calls.regrown_of (H1.out _ (below_regrown w d os)))
    have X2 := Lib.hid (fun d os => Calls.regrown_of (H2.out _ (below_regrown w d os)))
    have X3 := Lib.hid (fun d os => Calls.regrown_of (H3.out _ (below_regrown w d os)))
    clear H0 H1 H2 H3 H4
    go_enter Try.func22, Try.ntmps22
    go_wp2_with fail
    refine wp_region_quiet_below (by kernel_rfl) (by kernel_rfl) ?_
    repeat (go_big_quiet_step (first | with_reducible exact X0.out _ _ | with_reducible exact X1.out _ _ | with_reducible exact X2.out _ _ | with_reducible exact X3.out _ _))
    refine wpQuiet_nil ?_
    intro _ hw'
    obtain ⟨⟨dq, osq⟩, hw''⟩ := hw'
    subst hw''
    go_wp2
    go_ret
    exact ⟨by rw [e0.out]; rfl, below_regrown w dq osq⟩
  cases K4
  · have e0 : Hid (D = false) := by show _ = _; rw [hdef.out]; simp only [Bool.false_and, Bool.and_false, Bool.and_true, Bool.true_and]
    have X0 := Lib.hid (fun d os => Calls.regrown_of (H0.out _ (below_regrown w d os)))
    have X1 := Lib.hid (fun d os => Calls.regrown_of (H1.out _ (below_regrown w d os)))
    have X2 := Lib.hid (fun d os => Calls.regrown_of (H2.out _ (below_regrown w d os)))
    have X3 := Lib.hid (fun d os => Calls.regrown_of (H3.out _ (below_regrown w d os)))
    have X4 := Lib.hid (fun d os => Calls.regrown_of (H4.out _ (below_regrown w d os)))
    clear H0 H1 H2 H3 H4
    go_enter Try.func22, Try.ntmps22
    go_wp2_with fail
    refine wp_region_quiet_below (by kernel_rfl) (by kernel_rfl) ?_
    repeat (go_big_quiet_step (first | with_reducible exact X0.out _ _ | with_reducible exact X1.out _ _ | with_reducible exact X2.out _ _ | with_reducible exact X3.out _ _ | with_reducible exact X4.out _ _))
    refine wpQuiet_nil ?_
    intro _ hw'
    obtain ⟨⟨dq, osq⟩, hw''⟩ := hw'
    subst hw''
    go_wp2
    go_ret
    exact ⟨by rw [e0.out]; rfl, below_regrown w dq osq⟩
  have e0 : Hid (D = true) := by show _ = _; rw [hdef.out]; rfl
  have X0 := Lib.hid (fun d os => Calls.regrown_of (H0.out _ (below_regrown w d os)))
  have X1 := Lib.hid (fun d os => Calls.regrown_of (H1.out _ (below_regrown w d os)))
  have X2 := Lib.hid (fun d os => Calls.regrown_of (H2.out _ (below_regrown w d os)))
  have X3 := Lib.hid (fun d os => Calls.regrown_of (H3.out _ (below_regrown w d os)))
  have X4 := Lib.hid (fun d os => Calls.regrown_of (H4.out _ (below_regrown w d os)))
  clear H0 H1 H2 H3 H4
  go_enter Try.func22, Try.ntmps22
  go_wp2_with fail
  refine wp_region_quiet_below (by kernel_rfl) (by kernel_rfl) ?_
  repeat (go_big_quiet_step (first | with_reducible exact X0.out _ _ | with_reducible exact X1.out _ _ | with_reducible exact X2.out _ _ | with_reducible exact X3.out _ _ | with_reducible exact X4.out _ _))
  refine wpQuiet_nil ?_
  intro _ hw'
  obtain ⟨⟨dq, osq⟩, hw''⟩ := hw'
  subst hw''
  go_wp2
  go_ret
  exact ⟨by rw [e0.out]; rfl, below_regrown w dq osq⟩
set_option maxRecDepth 100000 in
set_option maxHeartbeats 2000000 in
theorem s_l05SamePlant (g o q p : Nat) (P0 P1 P2 P3 P4 P5 P6 P7 Q0 Q1 Q2 Q3 Q4 Q5 Q6 Q7 : Nat) (w : World) (bd : Bd [P0, P1, P2, P3, P4, P5, P6, P7, Q0, Q1, Q2, Q3, Q4, Q5, Q6, Q7]) (hg : PlantAtO w g o P0 P1 P2 P3 P4 P5 P6 P7) (hq : PlantAtO w q p Q0 Q1 Q2 Q3 Q4 Q5 Q6 Q7) : Calls Try.prog 57 #[.pointer (some ⟨g, o, none⟩), .pointer (some ⟨q, p, none⟩)] w fun e' w' => e' = .returned (.bool (samePl P0 P1 P2 P3 P4 P5 P6 P7 Q0 Q1 Q2 Q3 Q4 Q5 Q6 Q7)) ∧ ∃ n, w' = w.drewN n := by
  have HS := Lib.hid (fun x y W hx hy => s_l01Same x y W hx hy)
  have hdef : Hid (samePl P0 P1 P2 P3 P4 P5 P6 P7 Q0 Q1 Q2 Q3 Q4 Q5 Q6 Q7 = (same32 P0 Q0 && same32 P1 Q1 && same32 P2 Q2 && same32 P3 Q3 && same32 P4 Q4 && same32 P5 Q5 && same32 P6 Q6 && same32 P7 Q7)) := rfl
  have L0 := bd P0 (by simp)
  have M0 := bd Q0 (by simp)
  have L1 := bd P1 (by simp)
  have M1 := bd Q1 (by simp)
  have L2 := bd P2 (by simp)
  have M2 := bd Q2 (by simp)
  have L3 := bd P3 (by simp)
  have M3 := bd Q3 (by simp)
  have L4 := bd P4 (by simp)
  have M4 := bd Q4 (by simp)
  have L5 := bd P5 (by simp)
  have M5 := bd Q5 (by simp)
  have L6 := bd P6 (by simp)
  have M6 := bd Q6 (by simp)
  have L7 := bd P7 (by simp)
  have M7 := bd Q7 (by simp)
  obtain ⟨c0, c1, c2, c3, c4, c5, c6, c7⟩ := hg
  obtain ⟨d0, d1, d2, d3, d4, d5, d6, d7⟩ := hq
  have H0 := Lib.hid (fun W => HS.out P0 Q0 W L0 M0)
  have H1 := Lib.hid (fun W => HS.out P1 Q1 W L1 M1)
  have H2 := Lib.hid (fun W => HS.out P2 Q2 W L2 M2)
  have H3 := Lib.hid (fun W => HS.out P3 Q3 W L3 M3)
  have H4 := Lib.hid (fun W => HS.out P4 Q4 W L4 M4)
  have H5 := Lib.hid (fun W => HS.out P5 Q5 W L5 M5)
  have H6 := Lib.hid (fun W => HS.out P6 Q6 W L6 M6)
  have H7 := Lib.hid (fun W => HS.out P7 Q7 W L7 M7)
  clear bd HS L0 M0 L1 M1 L2 M2 L3 M3 L4 M4 L5 M5 L6 M6 L7 M7
  generalize samePl P0 P1 P2 P3 P4 P5 P6 P7 Q0 Q1 Q2 Q3 Q4 Q5 Q6 Q7 = D at *
  generalize same32 P0 Q0 = K0 at *
  generalize same32 P1 Q1 = K1 at *
  generalize same32 P2 Q2 = K2 at *
  generalize same32 P3 Q3 = K3 at *
  generalize same32 P4 Q4 = K4 at *
  generalize same32 P5 Q5 = K5 at *
  generalize same32 P6 Q6 = K6 at *
  generalize same32 P7 Q7 = K7 at *
  go_enter Try.func57, Try.ntmps57
  go_wp2_with fail
  dsimp only [List.append]
  refine wp_region_quiet_lit (by kernel_rfl) (by kernel_rfl) ?_
  repeat (go_big_quiet_step ((go_at_call 56; exact Calls.quiet_of (H0.out _))))
  cases K0
  · have e0 : Hid (D = false) := by show _ = _; rw [hdef.out]; simp only [Bool.false_and, Bool.and_false, Bool.and_true, Bool.true_and]
    refine wpQuiet_dead 91 4 _ [14] _ ?_ ?_ ?_ ?_
    · kernel_rfl
    · exact Nat.le_of_eq (by kernel_rfl)
    · intro s hs; rw [List.mem_singleton.1 hs]; kernel_rfl
    intro a' h8 h9
    rintro _ ⟨nq, rfl⟩
    rename_i hK
    refine hK _ _ (wp_ret ?_)
    refine bodyPost_ret (v := .bool false) ?_ h9 ⟨by rw [e0.out], _, rfl⟩
    simp [results, Try.results57, go_sem, h8]
  repeat (go_big_quiet_step ((go_at_call 56; exact Calls.quiet_of (H1.out _))))
  cases K1
  · have e0 : Hid (D = false) := by show _ = _; rw [hdef.out]; simp only [Bool.false_and, Bool.and_false, Bool.and_true, Bool.true_and]
    refine wpQuiet_dead 91 4 _ [25] _ ?_ ?_ ?_ ?_
    · kernel_rfl
    · exact Nat.le_of_eq (by kernel_rfl)
    · intro s hs; rw [List.mem_singleton.1 hs]; kernel_rfl
    intro a' h8 h9
    rintro _ ⟨nq, rfl⟩
    rename_i hK
    refine hK _ _ (wp_ret ?_)
    refine bodyPost_ret (v := .bool false) ?_ h9 ⟨by rw [e0.out], _, rfl⟩
    simp [results, Try.results57, go_sem, h8]
  repeat (go_big_quiet_step ((go_at_call 56; exact Calls.quiet_of (H2.out _))))
  cases K2
  · have e0 : Hid (D = false) := by show _ = _; rw [hdef.out]; simp only [Bool.false_and, Bool.and_false, Bool.and_true, Bool.true_and]
    refine wpQuiet_dead 91 4 _ [36] _ ?_ ?_ ?_ ?_
    · kernel_rfl
    · exact Nat.le_of_eq (by kernel_rfl)
    · intro s hs; rw [List.mem_singleton.1 hs]; kernel_rfl
    intro a' h8 h9
    rintro _ ⟨nq, rfl⟩
    rename_i hK
    refine hK _ _ (wp_ret ?_)
    refine bodyPost_ret (v := .bool false) ?_ h9 ⟨by rw [e0.out], _, rfl⟩
    simp [results, Try.results57, go_sem, h8]
  repeat (go_big_quiet_step ((go_at_call 56; exact Calls.quiet_of (H3.out _))))
  cases K3
  · have e0 : Hid (D = false) := by show _ = _; rw [hdef.out]; simp only [Bool.false_and, Bool.and_false, Bool.and_true, Bool.true_and]
    refine wpQuiet_dead 91 4 _ [47] _ ?_ ?_ ?_ ?_
    · kernel_rfl
    · exact Nat.le_of_eq (by kernel_rfl)
    · intro s hs; rw [List.mem_singleton.1 hs]; kernel_rfl
    intro a' h8 h9
    rintro _ ⟨nq, rfl⟩
    rename_i hK
    refine hK _ _ (wp_ret ?_)
    refine bodyPost_ret (v := .bool false) ?_ h9 ⟨by rw [e0.out], _, rfl⟩
    simp [results, Try.results57, go_sem, h8]
  repeat (go_big_quiet_step ((go_at_call 56; exact Calls.quiet_of (H4.out _))))
  cases K4
  · have e0 : Hid (D = false) := by show _ = _; rw [hdef.out]; simp only [Bool.false_and, Bool.and_false, Bool.and_true, Bool.true_and]
    refine wpQuiet_dead 91 4 _ [58] _ ?_ ?_ ?_ ?_
    · kernel_rfl
    · exact Nat.le_of_eq (by kernel_rfl)
    · intro s hs; rw [List.mem_singleton.1 hs]; kernel_rfl
    intro a' h8 h9
    rintro _ ⟨nq, rfl⟩
    rename_i hK
    refine hK _ _ (wp_ret ?_)
    refine bodyPost_ret (v := .bool false) ?_ h9 ⟨by rw [e0.out], _, rfl⟩
    simp [results, Try.results57, go_sem, h8]
  repeat (go_big_quiet_step ((go_at_call 56; exact Calls.quiet_of (H5.out _))))
  cases K5
  · have e0 : Hid (D = false) := by show _ = _; rw [hdef.out]; simp only [Bool.false_and, Bool.and_false, Bool.and_true, Bool.true_and]
    refine wpQuiet_dead 91 4 _ [69] _ ?_ ?_ ?_ ?_
    · kernel_rfl
    · exact Nat.le_of_eq (by kernel_rfl)
    · intro s hs; rw [List.mem_singleton.1 hs]; kernel_rfl
    intro a' h8 h9
    rintro _ ⟨nq, rfl⟩
    rename_i hK
    refine hK _ _ (wp_ret ?_)
    refine bodyPost_ret (v := .bool false) ?_ h9 ⟨by rw [e0.out], _, rfl⟩
    simp [results, Try.results57, go_sem, h8]
  repeat (go_big_quiet_step ((go_at_call 56; exact Calls.quiet_of (H6.out _))))
  cases K6
  · have e0 : Hid (D = false) := by show _ = _; rw [hdef.out]; simp only [Bool.false_and, Bool.and_false, Bool.and_true, Bool.true_and]
    refine wpQuiet_dead 91 4 _ [80] _ ?_ ?_ ?_ ?_
    · kernel_rfl
    · exact Nat.le_of_eq (by kernel_rfl)
    · intro s hs; rw [List.mem_singleton.1 hs]; kernel_rfl
    intro a' h8 h9
    rintro _ ⟨nq, rfl⟩
    rename_i hK
    refine hK _ _ (wp_ret ?_)
    refine bodyPost_ret (v := .bool false) ?_ h9 ⟨by rw [e0.out], _, rfl⟩
    simp [results, Try.results57, go_sem, h8]
  repeat (go_big_quiet_step ((go_at_call 56; exact Calls.quiet_of (H7.out _))))
  refine wpQuiet_nil ?_
  rintro _ ⟨nq, rfl⟩
  go_wp2
  go_ret
  exact ⟨by rw [hdef.out]; simp only [Bool.true_and]; rfl, _, rfl⟩
set_option maxRecDepth 100000 in
set_option maxHeartbeats 2000000 in
theorem s_l05Same (g o q p : Nat) (P0 P1 P2 P3 P4 P5 P6 P7 : Nat) (st : Int) (sp pi en : Nat) (Q0 Q1 Q2 Q3 Q4 Q5 Q6 Q7 : Nat) (st' : Int) (sp' pi' en' : Nat) (w : World) (bp : Bd [P0, P1, P2, P3, P4, P5, P6, P7, Q0, Q1, Q2, Q3, Q4, Q5, Q6, Q7]) (bd : Bd [sp, pi, en, sp', pi', en']) (hg : DrvAtO w g o P0 P1 P2 P3 P4 P5 P6 P7 st sp pi en) (hq : DrvAtO w q p Q0 Q1 Q2 Q3 Q4 Q5 Q6 Q7 st' sp' pi' en') : Calls Try.prog 21 #[.pointer (some ⟨g, o, none⟩), .pointer (some ⟨q, p, none⟩)] w fun e' w' => e' = .returned (.bool (sameDrv P0 P1 P2 P3 P4 P5 P6 P7 st sp pi en Q0 Q1 Q2 Q3 Q4 Q5 Q6 Q7 st' sp' pi' en')) ∧ Below w.heap.size w w' := by
  have H0 := Lib.hid (fun W (hb : Below w.heap.size w W) => toBelow (s_l05SamePlant g o q p P0 P1 P2 P3 P4 P5 P6 P7 Q0 Q1 Q2 Q3 Q4 Q5 Q6 Q7 W bp (PlantAtO.below hg.1 hb) (PlantAtO.below hq.1 hb)))
  have H2 := Lib.hid (fun W (hb : Below w.heap.size w W) => toBelow (s_l01Same sp sp' W (bd _ (by simp)) (bd _ (by simp))))
  have H3 := Lib.hid (fun W (hb : Below w.heap.size w W) => toBelow (s_l01Same pi pi' W (bd _ (by simp)) (bd _ (by simp))))
  have H4 := Lib.hid (fun W (hb : Below w.heap.size w W) => toBelow (s_l01Same en en' W (bd _ (by simp)) (bd _ (by simp))))
  have hdef : Hid (sameDrv P0 P1 P2 P3 P4 P5 P6 P7 st sp pi en Q0 Q1 Q2 Q3 Q4 Q5 Q6 Q7 st' sp' pi' en' = (samePl P0 P1 P2 P3 P4 P5 P6 P7 Q0 Q1 Q2 Q3 Q4 Q5 Q6 Q7 && st == st' && same32 sp sp' && same32 pi pi' && same32 en en')) := rfl
  obtain ⟨-, c8, c9, c10, c11⟩ := hg
  obtain ⟨-, d8, d9, d10, d11⟩ := hq
  have kc8 := cell_regrown c8
  have kd8 := cell_regrown d8
  have kc9 := cell_regrown c9
  have kd9 := cell_regrown d9
  have kc10 := cell_regrown c10
  have kd10 := cell_regrown d10
  have kc11 := cell_regrown c11
  have kd11 := cell_regrown d11
  clear bp bd
  generalize sameDrv P0 P1 P2 P3 P4 P5 P6 P7 st sp pi en Q0 Q1 Q2 Q3 Q4 Q5 Q6 Q7 st' sp' pi' en' = D at *
  generalize samePl P0 P1 P2 P3 P4 P5 P6 P7 Q0 Q1 Q2 Q3 Q4 Q5 Q6 Q7 = K0 at *
  generalize same32 sp sp' = K2 at *
  generalize same32 pi pi' = K3 at *
  generalize same32 en en' = K4 at *
  cases K0
  · have e0 : Hid (D = false) := by show _ = _; rw [hdef.out]; simp only [Bool.false_and, Bool.and_false, Bool.and_true, Bool.true_and]
    have X0 := Lib.hid (fun d os => Calls.regrown_of (H0.out _ (below_regrown w d os)))
    clear H0 H2 H3 H4
    go_enter Try.func21, Try.ntmps21
    go_wp2_with fail
    refine wp_region_quiet_below (by kernel_rfl) (by kernel_rfl) ?_
    repeat (go_big_quiet_step (first | with_reducible exact X0.out _ _))
    refine wpQuiet_nil ?_
    intro _ hw'
    obtain ⟨⟨dq, osq⟩, hw''⟩ := hw'
    subst hw''
    go_wp2
    go_ret
    exact ⟨by rw [e0.out]; rfl, below_regrown w dq osq⟩
  rcases (by cases (st == st') <;> simp : (st == st') = true ∨ (st == st') = false) with hq | hq
  case inr =>
    have e0 : Hid (D = false) := by show _ = _; rw [hdef.out]; rw [hq]; simp only [Bool.false_and, Bool.and_false, Bool.and_true, Bool.true_and]
    have X0 := Lib.hid (fun d os => Calls.regrown_of (H0.out _ (below_regrown w d os)))
    clear H0 H2 H3 H4
    go_enter Try.func21, Try.ntmps21
    go_wp2_with fail
    refine wp_region_quiet_below (by kernel_rfl) (by kernel_rfl) ?_
    repeat (go_big_quiet_step (first | with_reducible exact X0.out _ _))
    refine wpQuiet_nil ?_
    intro _ hw'
    obtain ⟨⟨dq, osq⟩, hw''⟩ := hw'
    subst hw''
    go_wp2
    go_ret
    exact ⟨by rw [e0.out]; rfl, below_regrown w dq osq⟩
  cases K2
  · have e0 : Hid (D = false) := by show _ = _; rw [hdef.out]; rw [hq]; simp only [Bool.false_and, Bool.and_false, Bool.and_true, Bool.true_and]
    have X0 := Lib.hid (fun d os => Calls.regrown_of (H0.out _ (below_regrown w d os)))
    have X2 := Lib.hid (fun d os => Calls.regrown_of (H2.out _ (below_regrown w d os)))
    clear H0 H2 H3 H4
    go_enter Try.func21, Try.ntmps21
    go_wp2_with fail
    refine wp_region_quiet_below (by kernel_rfl) (by kernel_rfl) ?_
    repeat (go_big_quiet_step (first | with_reducible exact X0.out _ _ | with_reducible exact X2.out _ _))
    refine wpQuiet_nil ?_
    intro _ hw'
    obtain ⟨⟨dq, osq⟩, hw''⟩ := hw'
    subst hw''
    go_wp2
    go_ret
    exact ⟨by rw [e0.out]; rfl, below_regrown w dq osq⟩
  cases K3
  · have e0 : Hid (D = false) := by show _ = _; rw [hdef.out]; rw [hq]; simp only [Bool.false_and, Bool.and_false, Bool.and_true, Bool.true_and]
    have X0 := Lib.hid (fun d os => Calls.regrown_of (H0.out _ (below_regrown w d os)))
    have X2 := Lib.hid (fun d os => Calls.regrown_of (H2.out _ (below_regrown w d os)))
    have X3 := Lib.hid (fun d os => Calls.regrown_of (H3.out _ (below_regrown w d os)))
    clear H0 H2 H3 H4
    go_enter Try.func21, Try.ntmps21
    go_wp2_with fail
    refine wp_region_quiet_below (by kernel_rfl) (by kernel_rfl) ?_
    repeat (go_big_quiet_step (first | with_reducible exact X0.out _ _ | with_reducible exact X2.out _ _ | with_reducible exact X3.out _ _))
    refine wpQuiet_nil ?_
    intro _ hw'
    obtain ⟨⟨dq, osq⟩, hw''⟩ := hw'
    subst hw''
    go_wp2
    go_ret
    exact ⟨by rw [e0.out]; rfl, below_regrown w dq osq⟩
  cases K4
  · have e0 : Hid (D = false) := by show _ = _; rw [hdef.out]; rw [hq]; simp only [Bool.false_and, Bool.and_false, Bool.and_true, Bool.true_and]
    have X0 := Lib.hid (fun d os => Calls.regrown_of (H0.out _ (below_regrown w d os)))
    have X2 := Lib.hid (fun d os => Calls.regrown_of (H2.out _ (below_regrown w d os)))
    have X3 := Lib.hid (fun d os => Calls.regrown_of (H3.out _ (below_regrown w d os)))
    have X4 := Lib.hid (fun d os => Calls.regrown_of (H4.out _ (below_regrown w d os)))
    clear H0 H2 H3 H4
    go_enter Try.func21, Try.ntmps21
    go_wp2_with fail
    refine wp_region_quiet_below (by kernel_rfl) (by kernel_rfl) ?_
    repeat (go_big_quiet_step (first | with_reducible exact X0.out _ _ | with_reducible exact X2.out _ _ | with_reducible exact X3.out _ _ | with_reducible exact X4.out _ _))
    refine wpQuiet_nil ?_
    intro _ hw'
    obtain ⟨⟨dq, osq⟩, hw''⟩ := hw'
    subst hw''
    go_wp2
    go_ret
    exact ⟨by rw [e0.out]; rfl, below_regrown w dq osq⟩
  have e0 : Hid (D = true) := by show _ = _; rw [hdef.out]; rw [hq]; rfl
  have X0 := Lib.hid (fun d os => Calls.regrown_of (H0.out _ (below_regrown w d os)))
  have X2 := Lib.hid (fun d os => Calls.regrown_of (H2.out _ (below_regrown w d os)))
  have X3 := Lib.hid (fun d os => Calls.regrown_of (H3.out _ (below_regrown w d os)))
  have X4 := Lib.hid (fun d os => Calls.regrown_of (H4.out _ (below_regrown w d os)))
  clear H0 H2 H3 H4
  go_enter Try.func21, Try.ntmps21
  go_wp2_with fail
  refine wp_region_quiet_below (by kernel_rfl) (by kernel_rfl) ?_
  repeat (go_big_quiet_step (first | with_reducible exact X0.out _ _ | with_reducible exact X2.out _ _ | with_reducible exact X3.out _ _ | with_reducible exact X4.out _ _))
  refine wpQuiet_nil ?_
  intro _ hw'
  obtain ⟨⟨dq, osq⟩, hw''⟩ := hw'
  subst hw''
  go_wp2
  go_ret
  exact ⟨by rw [e0.out]; rfl, below_regrown w dq osq⟩
end Go.Proofs.Ytglfjanclopipaa
