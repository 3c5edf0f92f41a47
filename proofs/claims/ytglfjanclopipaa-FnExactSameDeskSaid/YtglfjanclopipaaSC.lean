/- Walks: the same plants, drives, stations, rotors: the program's. -/
import Derived.Test.YtglfjanclopipaaSB
import Derived.Deep.RegionHeld3
namespace Go.Proofs.Ytglfjanclopipaa
set_option linter.unusedSimpArgs false
set_option linter.unusedVariables false
open Go.RowKit Go.Fl Go.Lib

def sameSta (s t : Sta) : Bool := same32 s.ra t.ra && same32 s.ch t.ch && same32 s.tw t.tw
def StaG (s : Sta) : Prop := s.ra < 4294967296 ∧ s.ch < 4294967296 ∧ s.tw < 4294967296
def sameRot (a l d : List Nat) (cs : List Sta) (c : Int) (hub tip : Nat) (a' l' d' : List Nat) (cs' : List Sta) (c' : Int) (hub' tip' : Nat) : Bool := sameProf a l d a' l' d' && pairs sameSta cs cs' && (c == c') && same32 hub hub' && same32 tip tip'
theorem RF_top8S (w : World) (k : Nat) (hk : k = w.heap.size) (i d r l m s c e : Nat) (t : TypeId) : RF (w.alloc (.cells #[.float .f32 i, .float .f32 d, .float .f32 r, .float .f32 l, .float .f32 m, .float .f32 s, .float .f32 c, .float .f32 e] t)) (.slice (some ⟨k, 0, none⟩) 8 8) [i, d, r, l, m, s, c, e] := by
  have h := RF_top w k hk [i, d, r, l, m, s, c, e] t (by simp)
  simp only [List.map_cons, List.map_nil, List.length_cons, List.length_nil] at h
  exact h
theorem i_numbersOfS (i d r l m s c e : Nat) (w : World) : Calls Try.prog 113 #[plantV i d r l m s c e] w fun e' w' => e' = .returned (.slice (some ⟨w.heap.size + 1, 0, none⟩) 8 8) ∧ RF w' (.slice (some ⟨w.heap.size + 1, 0, none⟩) 8 8) [i, d, r, l, m, s, c, e] ∧ Below w.heap.size w w' := by
  go_enter Try.func113, Try.ntmps113
  go_wp2
  go_ret
  exact ⟨rfl, RF_top8S _ _ (by simp) _ _ _ _ _ _ _ _ _, (by repeat (first | exact Below.refl _ _ | assumption | refine below_drewN ?_ _ | refine below_alloc (Nat.le_refl _) ?_ _ | (refine Below.setCell ?_ (by first | exact Nat.le_refl _ | (simp; done) | (simp; omega) | omega) _) | (refine below_step (Nat.le_refl _) ?_ (by assumption))))⟩
theorem row8 {w : World} {g : Nat} {a b c d e f h i : Value} (R : Row w g [a, b, c, d, e, f, h, i]) : w.cell? ⟨g, 0, none⟩ = some a ∧ w.cell? ⟨g, 1, none⟩ = some b ∧ w.cell? ⟨g, 2, none⟩ = some c ∧ w.cell? ⟨g, 3, none⟩ = some d ∧ w.cell? ⟨g, 4, none⟩ = some e ∧ w.cell? ⟨g, 5, none⟩ = some f ∧ w.cell? ⟨g, 6, none⟩ = some h ∧ w.cell? ⟨g, 7, none⟩ = some i :=
  ⟨R 0 _ rfl, R 1 _ rfl, R 2 _ rfl, R 3 _ rfl, R 4 _ rfl, R 5 _ rfl, R 6 _ rfl, R 7 _ rfl⟩
set_option maxRecDepth 100000 in
set_option maxHeartbeats 2000000 in
theorem i_SamePlant (P0 P1 P2 P3 P4 P5 P6 P7 Q0 Q1 Q2 Q3 Q4 Q5 Q6 Q7 : Nat) (w : World) (bp : Bd [P0, P1, P2, P3, P4, P5, P6, P7]) (bq : Bd [Q0, Q1, Q2, Q3, Q4, Q5, Q6, Q7]) : Calls Try.prog 67 #[plantV P0 P1 P2 P3 P4 P5 P6 P7, plantV Q0 Q1 Q2 Q3 Q4 Q5 Q6 Q7] w fun e' w' => e' = .returned (.bool (samePl P0 P1 P2 P3 P4 P5 P6 P7 Q0 Q1 Q2 Q3 Q4 Q5 Q6 Q7)) ∧ Below w.heap.size w w' := by
  have H1 := Lib.hid (fun W => i_numbersOfS P0 P1 P2 P3 P4 P5 P6 P7 W)
  have H2 := Lib.hid (fun W => i_numbersOfS Q0 Q1 Q2 Q3 Q4 Q5 Q6 Q7 W)
  have H3 := Lib.hid (fun W v v' h h' => toBelow (i_sameNumbers v v' [P0, P1, P2, P3, P4, P5, P6, P7] [Q0, Q1, Q2, Q3, Q4, Q5, Q6, Q7] W h h' bp bq))
  rw [samePl_list] at H3
  generalize samePl P0 P1 P2 P3 P4 P5 P6 P7 Q0 Q1 Q2 Q3 Q4 Q5 Q6 Q7 = D at *
  clear bp bq
  go_enter Try.func67, Try.ntmps67
  go_wp2_with fail
  obtain ⟨w0, hw0⟩ : ∃ w0, w0 = ((w.alloc (.cells #[.float .f32 P0, .float .f32 P1, .float .f32 P2, .float .f32 P3, .float .f32 P4, .float .f32 P5, .float .f32 P6, .float .f32 P7] 46)).alloc (.cells #[.float .f32 Q0, .float .f32 Q1, .float .f32 Q2, .float .f32 Q3, .float .f32 Q4, .float .f32 Q5, .float .f32 Q6, .float .f32 Q7] 46)) := ⟨_, rfl⟩
  have HB : Hid (Below w.heap.size w w0) := by rw [hw0]; exact (by repeat (first | exact Below.refl _ _ | assumption | refine below_drewN ?_ _ | refine below_alloc (Nat.le_refl _) ?_ _ | (refine Below.setCell ?_ (by first | exact Nat.le_refl _ | (simp; done) | (simp; omega) | omega) _) | (refine below_step (Nat.le_refl _) ?_ (by assumption))))
  have R1 : Hid (Row w0 w.heap.size [.float .f32 P0, .float .f32 P1, .float .f32 P2, .float .f32 P3, .float .f32 P4, .float .f32 P5, .float .f32 P6, .float .f32 P7]) := by rw [hw0]; exact (row_top w _ rfl #[.float .f32 P0, .float .f32 P1, .float .f32 P2, .float .f32 P3, .float .f32 P4, .float .f32 P5, .float .f32 P6, .float .f32 P7] 46).below (below_alloc (Nat.le_refl _) (Below.refl _ _) _)
  have R2 : Hid (Row w0 (w.heap.size + 1) [.float .f32 Q0, .float .f32 Q1, .float .f32 Q2, .float .f32 Q3, .float .f32 Q4, .float .f32 Q5, .float .f32 Q6, .float .f32 Q7]) := by rw [hw0]; exact row_top _ _ (by simp) #[.float .f32 Q0, .float .f32 Q1, .float .f32 Q2, .float .f32 Q3, .float .f32 Q4, .float .f32 Q5, .float .f32 Q6, .float .f32 Q7] 46
  rw [← hw0]
  clear hw0
  obtain ⟨g, hg⟩ : ∃ g, g = w.heap.size := ⟨_, rfl⟩
  rw [← hg] at R1 R2
  rw [← hg]
  clear hg
  go_region_held3 (fun w' => (w'.cell? ⟨g, 0, none⟩ = some (.float .f32 P0) ∧ w'.cell? ⟨g, 1, none⟩ = some (.float .f32 P1) ∧ w'.cell? ⟨g, 2, none⟩ = some (.float .f32 P2) ∧ w'.cell? ⟨g, 3, none⟩ = some (.float .f32 P3) ∧ w'.cell? ⟨g, 4, none⟩ = some (.float .f32 P4) ∧ w'.cell? ⟨g, 5, none⟩ = some (.float .f32 P5) ∧ w'.cell? ⟨g, 6, none⟩ = some (.float .f32 P6) ∧ w'.cell? ⟨g, 7, none⟩ = some (.float .f32 P7)) ∧ (w'.cell? ⟨g + 1, 0, none⟩ = some (.float .f32 Q0) ∧ w'.cell? ⟨g + 1, 1, none⟩ = some (.float .f32 Q1) ∧ w'.cell? ⟨g + 1, 2, none⟩ = some (.float .f32 Q2) ∧ w'.cell? ⟨g + 1, 3, none⟩ = some (.float .f32 Q3) ∧ w'.cell? ⟨g + 1, 4, none⟩ = some (.float .f32 Q4) ∧ w'.cell? ⟨g + 1, 5, none⟩ = some (.float .f32 Q5) ∧ w'.cell? ⟨g + 1, 6, none⟩ = some (.float .f32 Q6) ∧ w'.cell? ⟨g + 1, 7, none⟩ = some (.float .f32 Q7)))
    ((refine ⟨row8 (R1.out.below ?_), row8 (R2.out.below ?_)⟩ <;> repeat (first | with_reducible exact Below.refl _ _ | with_reducible refine Below_drewM ?_ | with_reducible refine below_step (Nat.le_refl _) ?_ (by with_reducible assumption))))
    (first
      | ((go_at_call 113; with_reducible refine (H1.out _).mono ?_; rintro e' w2 ⟨rfl, HR1, hb2⟩))
      | ((go_at_call 113; with_reducible refine (H2.out _).mono ?_; rintro e' w3 ⟨rfl, HR2, hb3⟩))
      | ((go_at_call 68; refine (H3.out _ _ _ ?_ ?_).mono ?_; (focus (first | with_reducible exact HR1 | with_reducible exact RF_below HR1 (by with_reducible assumption))); (focus (first | with_reducible exact HR2 | with_reducible exact RF_below HR2 (by with_reducible assumption))); rintro e' w4 ⟨rfl, hb4⟩)))
  all_goals
    go_wp2
    go_ret
    refine ⟨rfl, ?_⟩
    repeat (first | with_reducible exact HB.out | with_reducible refine Below_drewM ?_ | with_reducible refine below_step (Nat.le_refl _) ?_ (by with_reducible assumption))
set_option maxRecDepth 100000 in
set_option maxHeartbeats 2000000 in
theorem i_SameDrive (P0 P1 P2 P3 P4 P5 P6 P7 : Nat) (st : Int) (sp pi en : Nat) (Q0 Q1 Q2 Q3 Q4 Q5 Q6 Q7 : Nat) (st' : Int) (sp' pi' en' : Nat) (w : World) (bp : Bd [P0, P1, P2, P3, P4, P5, P6, P7]) (bq : Bd [Q0, Q1, Q2, Q3, Q4, Q5, Q6, Q7]) (bd : Bd [sp, pi, en, sp', pi', en']) : Calls Try.prog 29 #[.agg #[.float .f32 P0, .float .f32 P1, .float .f32 P2, .float .f32 P3, .float .f32 P4, .float .f32 P5, .float .f32 P6, .float .f32 P7, .int .i64 st, .float .f32 sp, .float .f32 pi, .float .f32 en], .agg #[.float .f32 Q0, .float .f32 Q1, .float .f32 Q2, .float .f32 Q3, .float .f32 Q4, .float .f32 Q5, .float .f32 Q6, .float .f32 Q7, .int .i64 st', .float .f32 sp', .float .f32 pi', .float .f32 en']] w fun e' w' => e' = .returned (.bool (sameDrv P0 P1 P2 P3 P4 P5 P6 P7 st sp pi en Q0 Q1 Q2 Q3 Q4 Q5 Q6 Q7 st' sp' pi' en')) ∧ Below w.heap.size w w' := by
  have H0 := Lib.hid (fun W (hb : Below w.heap.size w W) => i_SamePlant P0 P1 P2 P3 P4 P5 P6 P7 Q0 Q1 Q2 Q3 Q4 Q5 Q6 Q7 W bp bq)
  have H2 := Lib.hid (fun W (hb : Below w.heap.size w W) => toBelow (i_SameNumber sp sp' W (bd _ (by simp)) (bd _ (by simp))))
  have H3 := Lib.hid (fun W (hb : Below w.heap.size w W) => toBelow (i_SameNumber pi pi' W (bd _ (by simp)) (bd _ (by simp))))
  have H4 := Lib.hid (fun W (hb : Below w.heap.size w W) => toBelow (i_SameNumber en en' W (bd _ (by simp)) (bd _ (by simp))))
  have hdef : Hid (sameDrv P0 P1 P2 P3 P4 P5 P6 P7 st sp pi en Q0 Q1 Q2 Q3 Q4 Q5 Q6 Q7 st' sp' pi' en' = (samePl P0 P1 P2 P3 P4 P5 P6 P7 Q0 Q1 Q2 Q3 Q4 Q5 Q6 Q7 && st == st' && same32 sp sp' && same32 pi pi' && same32 en en')) := rfl
  clear bp bq bd
  generalize sameDrv P0 P1 P2 P3 P4 P5 P6 P7 st sp pi en Q0 Q1 Q2 Q3 Q4 Q5 Q6 Q7 st' sp' pi' en' = D at *
  generalize samePl P0 P1 P2 P3 P4 P5 P6 P7 Q0 Q1 Q2 Q3 Q4 Q5 Q6 Q7 = K0 at *
  generalize same32 sp sp' = K2 at *
  generalize same32 pi pi' = K3 at *
  generalize same32 en en' = K4 at *
  go_enter Try.func29, Try.ntmps29
  go_wp2_with fail
  obtain ⟨w0, hw0⟩ : ∃ w0, w0 = ((w.alloc (.cells #[.float .f32 P0, .float .f32 P1, .float .f32 P2, .float .f32 P3, .float .f32 P4, .float .f32 P5, .float .f32 P6, .float .f32 P7, .int .i64 st, .float .f32 sp, .float .f32 pi, .float .f32 en] 48)).alloc (.cells #[.float .f32 Q0, .float .f32 Q1, .float .f32 Q2, .float .f32 Q3, .float .f32 Q4, .float .f32 Q5, .float .f32 Q6, .float .f32 Q7, .int .i64 st', .float .f32 sp', .float .f32 pi', .float .f32 en'] 48)) := ⟨_, rfl⟩
  have HB : Hid (Below w.heap.size w w0) := by rw [hw0]; exact (by repeat (first | exact Below.refl _ _ | assumption | refine below_drewN ?_ _ | refine below_alloc (Nat.le_refl _) ?_ _ | (refine Below.setCell ?_ (by first | exact Nat.le_refl _ | (simp; done) | (simp; omega) | omega) _) | (refine below_step (Nat.le_refl _) ?_ (by assumption))))
  have R1 : Hid (Row w0 w.heap.size [.float .f32 P0, .float .f32 P1, .float .f32 P2, .float .f32 P3, .float .f32 P4, .float .f32 P5, .float .f32 P6, .float .f32 P7, .int .i64 st, .float .f32 sp, .float .f32 pi, .float .f32 en]) := by rw [hw0]; exact (row_top w _ rfl #[.float .f32 P0, .float .f32 P1, .float .f32 P2, .float .f32 P3, .float .f32 P4, .float .f32 P5, .float .f32 P6, .float .f32 P7, .int .i64 st, .float .f32 sp, .float .f32 pi, .float .f32 en] 48).below (below_alloc (Nat.le_refl _) (Below.refl _ _) _)
  have R2 : Hid (Row w0 (w.heap.size + 1) [.float .f32 Q0, .float .f32 Q1, .float .f32 Q2, .float .f32 Q3, .float .f32 Q4, .float .f32 Q5, .float .f32 Q6, .float .f32 Q7, .int .i64 st', .float .f32 sp', .float .f32 pi', .float .f32 en']) := by rw [hw0]; exact row_top _ _ (by simp) #[.float .f32 Q0, .float .f32 Q1, .float .f32 Q2, .float .f32 Q3, .float .f32 Q4, .float .f32 Q5, .float .f32 Q6, .float .f32 Q7, .int .i64 st', .float .f32 sp', .float .f32 pi', .float .f32 en'] 48
  rw [← hw0]
  clear hw0
  refine (H0.out _ HB.out).mono ?_
  rintro e' w1 ⟨rfl, hb⟩
  replace HB := Lib.hid (below_step (Nat.le_refl _) HB.out hb)
  replace R1 := Lib.hid (R1.out.below hb)
  replace R2 := Lib.hid (R2.out.below hb)
  clear hb H0
  cases K0
  · have e0 : Hid (D = false) := by show _ = _; rw [hdef.out]; simp only [Bool.false_and, Bool.and_false, Bool.and_true, Bool.true_and]
    go_wp2
    go_ret
    exact ⟨by rw [e0.out]; rfl, HB.out⟩
  have a8 := R1.out 8 _ rfl
  have b8 := R2.out 8 _ rfl
  rcases (by cases (st == st') <;> simp : (st == st') = true ∨ (st == st') = false) with hq | hq
  case inr =>
    have e0 : Hid (D = false) := by show _ = _; rw [hdef.out, hq]; simp only [Bool.false_and, Bool.and_false, Bool.and_true, Bool.true_and]
    go_wp2
    go_ret
    exact ⟨by rw [e0.out]; rfl, HB.out⟩
  have HQ := Lib.hid hq
  have a9 := R1.out 9 _ rfl
  have b9 := R2.out 9 _ rfl
  go_wp2_with fail
  clear hq a8 b8 a9 b9
  refine (H2.out _ HB.out).mono ?_
  rintro e' w3 ⟨rfl, hb⟩
  replace HB := Lib.hid (below_step (Nat.le_refl _) HB.out hb)
  replace R1 := Lib.hid (R1.out.below hb)
  replace R2 := Lib.hid (R2.out.below hb)
  clear hb H2
  cases K2
  · have e0 : Hid (D = false) := by show _ = _; rw [hdef.out]; simp only [Bool.false_and, Bool.and_false, Bool.and_true, Bool.true_and]
    go_wp2
    go_ret
    exact ⟨by rw [e0.out]; rfl, HB.out⟩
  have a10 := R1.out 10 _ rfl
  have b10 := R2.out 10 _ rfl
  go_wp2_with fail
  clear a10 b10
  refine (H3.out _ HB.out).mono ?_
  rintro e' w4 ⟨rfl, hb⟩
  replace HB := Lib.hid (below_step (Nat.le_refl _) HB.out hb)
  replace R1 := Lib.hid (R1.out.below hb)
  replace R2 := Lib.hid (R2.out.below hb)
  clear hb H3
  cases K3
  · have e0 : Hid (D = false) := by show _ = _; rw [hdef.out]; simp only [Bool.false_and, Bool.and_false, Bool.and_true, Bool.true_and]
    go_wp2
    go_ret
    exact ⟨by rw [e0.out]; rfl, HB.out⟩
  have a11 := R1.out 11 _ rfl
  have b11 := R2.out 11 _ rfl
  go_wp2_with fail
  clear a11 b11
  refine (H4.out _ HB.out).mono ?_
  rintro e' w5 ⟨rfl, hb⟩
  replace HB := Lib.hid (below_step (Nat.le_refl _) HB.out hb)
  replace R1 := Lib.hid (R1.out.below hb)
  replace R2 := Lib.hid (R2.out.below hb)
  clear hb H4
  cases K4
  · have e0 : Hid (D = false) := by show _ = _; rw [hdef.out]; simp only [Bool.false_and, Bool.and_false, Bool.and_true, Bool.true_and]
    go_wp2
    go_ret
    exact ⟨by rw [e0.out]; rfl, HB.out⟩
  have e0 : Hid (D = true) := by show _ = _; rw [hdef.out]; rw [HQ.out]; rfl
  go_wp2
  go_ret
  exact ⟨by rw [e0.out]; rfl, HB.out⟩
set_option maxRecDepth 100000 in
set_option maxHeartbeats 2000000 in
theorem i_SameRotor_1' (ra ch tw ra' ch' tw' : Nat) (w : World) (bd : Bd [ra, ch, tw, ra', ch', tw']) : Calls Try.prog 63 #[.agg #[.float .f32 ra, .float .f32 ch, .float .f32 tw], .agg #[.float .f32 ra', .float .f32 ch', .float .f32 tw']] w fun e' w' => e' = .returned (.bool (sameSta ⟨ra, ch, tw⟩ ⟨ra', ch', tw'⟩)) ∧ Below w.heap.size w w' := by
  have H0 := Lib.hid (fun W (hb : Below w.heap.size w W) => toBelow (i_SameNumber ra ra' W (bd _ (by simp)) (bd _ (by simp))))
  have H1 := Lib.hid (fun W (hb : Below w.heap.size w W) => toBelow (i_SameNumber ch ch' W (bd _ (by simp)) (bd _ (by simp))))
  have H2 := Lib.hid (fun W (hb : Below w.heap.size w W) => toBelow (i_SameNumber tw tw' W (bd _ (by simp)) (bd _ (by simp))))
  have hdef : Hid (sameSta ⟨ra, ch, tw⟩ ⟨ra', ch', tw'⟩ = (same32 ra ra' && same32 ch ch' && same32 tw tw')) := rfl
  clear bd
  generalize sameSta ⟨ra, ch, tw⟩ ⟨ra', ch', tw'⟩ = D at *
  generalize same32 ra ra' = K0 at *
  generalize same32 ch ch' = K1 at *
  generalize same32 tw tw' = K2 at *
  go_enter Try.func63, Try.ntmps63
  go_wp2_with fail
  obtain ⟨w0, hw0⟩ : ∃ w0, w0 = ((w.alloc (.cells #[.float .f32 ra, .float .f32 ch, .float .f32 tw] 101)).alloc (.cells #[.float .f32 ra', .float .f32 ch', .float .f32 tw'] 101)) := ⟨_, rfl⟩
  have HB : Hid (Below w.heap.size w w0) := by rw [hw0]; exact (by repeat (first | exact Below.refl _ _ | assumption | refine below_drewN ?_ _ | refine below_alloc (Nat.le_refl _) ?_ _ | (refine Below.setCell ?_ (by first | exact Nat.le_refl _ | (simp; done) | (simp; omega) | omega) _) | (refine below_step (Nat.le_refl _) ?_ (by assumption))))
  have R1 : Hid (Row w0 w.heap.size [.float .f32 ra, .float .f32 ch, .float .f32 tw]) := by rw [hw0]; exact (row_top w _ rfl #[.float .f32 ra, .float .f32 ch, .float .f32 tw] 101).below (below_alloc (Nat.le_refl _) (Below.refl _ _) _)
  have R2 : Hid (Row w0 (w.heap.size + 1) [.float .f32 ra', .float .f32 ch', .float .f32 tw']) := by rw [hw0]; exact row_top _ _ (by simp) #[.float .f32 ra', .float .f32 ch', .float .f32 tw'] 101
  rw [← hw0]
  clear hw0
  refine (H0.out _ HB.out).mono ?_
  rintro e' w1 ⟨rfl, hb⟩
  replace HB := Lib.hid (below_step (Nat.le_refl _) HB.out hb)
  replace R1 := Lib.hid (R1.out.below hb)
  replace R2 := Lib.hid (R2.out.below hb)
  clear hb H0
  cases K0
  · have e0 : Hid (D = false) := by show _ = _; rw [hdef.out]; simp only [Bool.false_and, Bool.and_false, Bool.and_true, Bool.true_and]
    go_wp2
    go_ret
    exact ⟨by rw [e0.out]; rfl, HB.out⟩
  have a1 := R1.out 1 _ rfl
  have b1 := R2.out 1 _ rfl
  go_wp2_with fail
  clear a1 b1
  refine (H1.out _ HB.out).mono ?_
  rintro e' w2 ⟨rfl, hb⟩
  replace HB := Lib.hid (below_step (Nat.le_refl _) HB.out hb)
  replace R1 := Lib.hid (R1.out.below hb)
  replace R2 := Lib.hid (R2.out.below hb)
  clear hb H1
  cases K1
  · have e0 : Hid (D = false) := by show _ = _; rw [hdef.out]; simp only [Bool.false_and, Bool.and_false, Bool.and_true, Bool.true_and]
    go_wp2
    go_ret
    exact ⟨by rw [e0.out]; rfl, HB.out⟩
  have a2 := R1.out 2 _ rfl
  have b2 := R2.out 2 _ rfl
  go_wp2_with fail
  clear a2 b2
  refine (H2.out _ HB.out).mono ?_
  rintro e' w3 ⟨rfl, hb⟩
  replace HB := Lib.hid (below_step (Nat.le_refl _) HB.out hb)
  replace R1 := Lib.hid (R1.out.below hb)
  replace R2 := Lib.hid (R2.out.below hb)
  clear hb H2
  cases K2
  · have e0 : Hid (D = false) := by show _ = _; rw [hdef.out]; simp only [Bool.false_and, Bool.and_false, Bool.and_true, Bool.true_and]
    go_wp2
    go_ret
    exact ⟨by rw [e0.out]; rfl, HB.out⟩
  have e0 : Hid (D = true) := by show _ = _; rw [hdef.out]; rfl
  go_wp2
  go_ret
  exact ⟨by rw [e0.out]; rfl, HB.out⟩
theorem i_SameRotor_1 (c d : Sta) (w : World) (hc : StaG c) (hd : StaG d) : Calls Try.prog 63 #[sta c, sta d] w fun e w' => e = .returned (.bool (sameSta c d)) ∧ Below w.heap.size w w' := by
  obtain ⟨ra, ch, tw⟩ := c
  obtain ⟨ra', ch', tw'⟩ := d
  refine i_SameRotor_1' ra ch tw ra' ch' tw' w (fun x hx => ?_)
  obtain ⟨h1, h2, h3⟩ := hc
  obtain ⟨k1, k2, k3⟩ := hd
  simp only [List.mem_cons, List.not_mem_nil, or_false] at hx
  rcases hx with rfl | rfl | rfl | rfl | rfl | rfl <;> assumption
set_option maxHeartbeats 1000000 in
theorem f_EqualFunc_Sta (g : Nat) (p : Sta → Sta → Bool) (G : Sta → Prop) (hg : ∀ args W, (callFunc g args).run Try.prog W = .ok (.enter g args) W) (H : ∀ c d W, G c → G d → Calls Try.prog g #[sta c, sta d] W fun e w' => e = .returned (.bool (p c d)) ∧ Below W.heap.size W w')
    (v v' : Value) (cs ds : List Sta) (w : World) (hv : RT w v cs) (hv' : RT w v' ds) (hcs : ∀ c ∈ cs, G c) (hds : ∀ d ∈ ds, G d) :
    Calls Try.prog 66 #[v, v', .func (.func g) #[] #[]] w fun e w' => e = .returned (.bool (pairs p cs ds)) ∧ Below w.heap.size w w' := by
  obtain ⟨pp, cap, rfl, hm, hc⟩ := hv
  obtain ⟨pp', cap', rfl, hm', hc'⟩ := hv'
  have HH := Lib.hid H
  have HG := Lib.hid hcs
  have HG' := Lib.hid hds
  clear H hcs hds
  by_cases hl : cs.length = ds.length
  case neg =>
    have h1 := len_beq_false hl
    have HP := Lib.hid (pairs_len (p := p) hl)
    clear hl
    go_enter Try.func66, Try.ntmps66
    go_wp2_with fail
    go_ret
    exact ⟨by rw [HP.out]; rfl, (by repeat (first | exact Below.refl _ _ | assumption | refine below_drewN ?_ _ | refine below_alloc (Nat.le_refl _) ?_ _ | (refine Below.setCell ?_ (by first | exact Nat.le_refl _ | (simp; done) | (simp; omega) | omega) _) | (refine below_step (Nat.le_refl _) ?_ (by assumption))))⟩
  have h1 := len_beq_true hl
  have HL := Lib.hid hl
  clear hl
  go_enter Try.func66, Try.ntmps66
  go_wp2_with fail
  clear h1
  go_loopw [17] (fun i wr => ∃ k : Nat, k ≤ cs.length ∧ i = .int .i64 k ∧ Below w.heap.size w wr ∧ allYet p cs ds k) (fun i _ => cs.length - (intOf i).toNat)
  case atStart => exact ⟨0, Nat.zero_le _, rfl, Below.refl _ _, allYet_zero _ _ _⟩
  case round =>
    obtain ⟨k, hk, rfl, hb, hn⟩ := hrel
    by_cases hlt : k < cs.length
    · have hlt' : k < ds.length := by rw [← HL.out]; exact hlt
      obtain ⟨b, off, rfl, hcell⟩ := hc.resolve_left (by omega)
      obtain ⟨b', off', rfl, hcell'⟩ := hc'.resolve_left (by omega)
      obtain ⟨h1, h2, h3⟩ := StaAt_of hcell k hlt
      obtain ⟨i1, i2, i3⟩ := StaAt_of hcell' k hlt'
      have g1 := (hb.cell (p := ⟨b, off + k * 3, none⟩) (block_lt_of_cell h1)).trans h1
      have g2 := (hb.cell (p := ⟨b, off + k * 3 + 1, none⟩) (block_lt_of_cell h2)).trans h2
      have g3 := (hb.cell (p := ⟨b, off + k * 3 + 2, none⟩) (block_lt_of_cell h3)).trans h3
      have j1 := (hb.cell (p := ⟨b', off' + k * 3, none⟩) (block_lt_of_cell i1)).trans i1
      have j2 := (hb.cell (p := ⟨b', off' + k * 3 + 1, none⟩) (block_lt_of_cell i2)).trans i2
      have j3 := (hb.cell (p := ⟨b', off' + k * 3 + 2, none⟩) (block_lt_of_cell i3)).trans i3
      have q1 : ∀ o : Obj, (wr.alloc o).cell? ⟨b', off' + k * 3, none⟩ = _ := fun o => (((Below.refl wr.heap.size wr).alloc (Nat.le_refl _) o).cell (p := ⟨b', off' + k * 3, none⟩) (block_lt_of_cell j1)).trans j1
      have q2 : ∀ o : Obj, (wr.alloc o).cell? ⟨b', off' + k * 3 + 1, none⟩ = _ := fun o => (((Below.refl wr.heap.size wr).alloc (Nat.le_refl _) o).cell (p := ⟨b', off' + k * 3 + 1, none⟩) (block_lt_of_cell j2)).trans j2
      have q3 : ∀ o : Obj, (wr.alloc o).cell? ⟨b', off' + k * 3 + 2, none⟩ = _ := fun o => (((Below.refl wr.heap.size wr).alloc (Nat.le_refl _) o).cell (p := ⟨b', off' + k * 3 + 2, none⟩) (block_lt_of_cell j3)).trans j3
      have hp' : p cs[k] ds[k] = true ∨ p cs[k] ds[k] = false := by cases p cs[k] ds[k] <;> simp
      have Gc := Lib.hid (HG.out cs[k] (List.getElem_mem hlt))
      have Gd := Lib.hid (HG'.out ds[k] (List.getElem_mem hlt'))
      generalize hcc : cs[k] = c at h1 h2 h3 g1 g2 g3 hp' Gc
      generalize hdd : ds[k] = d at i1 i2 i3 j1 j2 j3 q1 q2 q3 hp' Gd
      have HC := Lib.hid hcc
      have HD := Lib.hid hdd
      clear hcell hc h1 h2 h3 hcc hcell' hc' i1 i2 i3 hdd j1 j2 j3
      obtain ⟨lo, hi, wh⟩ := c
      obtain ⟨lo', hi', wh'⟩ := d
      simp only at g1 g2 g3 q1 q2 q3
      have Hb := Lib.hid hb
      clear hb
      rcases hp' with hp | hp
      all_goals
        have HP := Lib.hid hp
        clear hp
        go_wp2_with (refine (HH.out ⟨lo, hi, wh⟩ ⟨lo', hi', wh'⟩ _ Gc.out Gd.out).mono ?_; rintro e w' ⟨rfl, hb1⟩; rw [HP.out])
      · go_roundw
        case rel => exact ⟨k + 1, by omega, by go_num, below_step (Nat.le_refl _) Hb.out (by have hb := hb1; exact (by repeat (first | exact Below.refl _ _ | assumption | refine below_drewN ?_ _ | refine below_alloc (Nat.le_refl _) ?_ _ | (refine Below.setCell ?_ (by first | exact Nat.le_refl _ | (simp; done) | (simp; omega) | omega) _) | (refine below_step (Nat.le_refl _) ?_ (by assumption))))), allYet_succ hn hlt hlt' (by rw [HC.out, HD.out]; exact HP.out)⟩
        case measure => simp [intOf]; omega
      · go_ret
        exact ⟨by rw [pairs_not hlt hlt' (by rw [HC.out, HD.out]; exact HP.out)]; rfl, below_step (Nat.le_refl _) Hb.out (by have hb := hb1; exact (by repeat (first | exact Below.refl _ _ | assumption | refine below_drewN ?_ _ | refine below_alloc (Nat.le_refl _) ?_ _ | (refine Below.setCell ?_ (by first | exact Nat.le_refl _ | (simp; done) | (simp; omega) | omega) _) | (refine below_step (Nat.le_refl _) ?_ (by assumption)))))⟩
    · obtain rfl : k = cs.length := by omega
      have HP := Lib.hid (pairs_all HL.out hn)
      go_wp2
      go_ret
      exact ⟨by rw [HP.out]; rfl, hb⟩
set_option maxRecDepth 100000 in
set_option maxHeartbeats 2000000 in
theorem i_SameRotor (va vl vd vs : Value) (a l d : List Nat) (cs : List Sta) (c : Int) (hub tip : Nat) (va' vl' vd' vs' : Value) (a' l' d' : List Nat) (cs' : List Sta) (c' : Int) (hub' tip' : Nat) (w : World) (ha : RF w va a) (ta : Bd a) (hl : RF w vl l) (tl : Bd l) (hd : RF w vd d) (td : Bd d) (ha' : RF w va' a') (ta' : Bd a') (hl' : RF w vl' l') (tl' : Bd l') (hd' : RF w vd' d') (td' : Bd d') (hs : RT w vs cs) (ts : ∀ s ∈ cs, StaG s) (hs' : RT w vs' cs') (ts' : ∀ s ∈ cs', StaG s) (bd : Bd [hub, tip, hub', tip']) : Calls Try.prog 27 #[.agg #[va, vl, vd, vs, .int .i64 c, .float .f32 hub, .float .f32 tip], .agg #[va', vl', vd', vs', .int .i64 c', .float .f32 hub', .float .f32 tip']] w fun e' w' => e' = .returned (.bool (sameRot a l d cs c hub tip a' l' d' cs' c' hub' tip')) ∧ Below w.heap.size w w' := by
  have H0 := Lib.hid (fun W (hb : Below w.heap.size w W) => i_SameProfile va vl vd va' vl' vd' a l d a' l' d' W (RF_below ha hb) ta (RF_below hl hb) tl (RF_below hd hb) td (RF_below ha' hb) ta' (RF_below hl' hb) tl' (RF_below hd' hb) td')
  have H1 := Lib.hid (fun W (hb : Below w.heap.size w W) => f_EqualFunc_Sta _ sameSta StaG (run_enter Try.func63 (by kernel_rfl) rfl) (fun c d W hc hd => i_SameRotor_1 c d W hc hd) vs vs' cs cs' W (RT_below hs hb) (RT_below hs' hb) ts ts')
  have H3 := Lib.hid (fun W (hb : Below w.heap.size w W) => toBelow (i_SameNumber hub hub' W (bd _ (by simp)) (bd _ (by simp))))
  have H4 := Lib.hid (fun W (hb : Below w.heap.size w W) => toBelow (i_SameNumber tip tip' W (bd _ (by simp)) (bd _ (by simp))))
  have hdef : Hid (sameRot a l d cs c hub tip a' l' d' cs' c' hub' tip' = (sameProf a l d a' l' d' && pairs sameSta cs cs' && c == c' && same32 hub hub' && same32 tip tip')) := rfl
  clear ha ta hl tl hd td ha' ta' hl' tl' hd' td' hs ts hs' ts' bd
  generalize sameRot a l d cs c hub tip a' l' d' cs' c' hub' tip' = D at *
  generalize sameProf a l d a' l' d' = K0 at *
  generalize pairs sameSta cs cs' = K1 at *
  generalize same32 hub hub' = K3 at *
  generalize same32 tip tip' = K4 at *
  go_enter Try.func27, Try.ntmps27
  go_wp2_with fail
  obtain ⟨w0, hw0⟩ : ∃ w0, w0 = ((w.alloc (.cells #[va, vl, vd, vs, .int .i64 c, .float .f32 hub, .float .f32 tip] 44)).alloc (.cells #[va', vl', vd', vs', .int .i64 c', .float .f32 hub', .float .f32 tip'] 44)) := ⟨_, rfl⟩
  have HB : Hid (Below w.heap.size w w0) := by rw [hw0]; exact (by repeat (first | exact Below.refl _ _ | assumption | refine below_drewN ?_ _ | refine below_alloc (Nat.le_refl _) ?_ _ | (refine Below.setCell ?_ (by first | exact Nat.le_refl _ | (simp; done) | (simp; omega) | omega) _) | (refine below_step (Nat.le_refl _) ?_ (by assumption))))
  have R1 : Hid (Row w0 w.heap.size [va, vl, vd, vs, .int .i64 c, .float .f32 hub, .float .f32 tip]) := by rw [hw0]; exact (row_top w _ rfl #[va, vl, vd, vs, .int .i64 c, .float .f32 hub, .float .f32 tip] 44).below (below_alloc (Nat.le_refl _) (Below.refl _ _) _)
  have R2 : Hid (Row w0 (w.heap.size + 1) [va', vl', vd', vs', .int .i64 c', .float .f32 hub', .float .f32 tip']) := by rw [hw0]; exact row_top _ _ (by simp) #[va', vl', vd', vs', .int .i64 c', .float .f32 hub', .float .f32 tip'] 44
  rw [← hw0]
  clear hw0
  refine (H0.out _ HB.out).mono ?_
  rintro e' w1 ⟨rfl, hb⟩
  replace HB := Lib.hid (below_step (Nat.le_refl _) HB.out hb)
  replace R1 := Lib.hid (R1.out.below hb)
  replace R2 := Lib.hid (R2.out.below hb)
  clear hb H0
  cases K0
  · have e0 : Hid (D = false) := by show _ = _; rw [hdef.out]; simp only [Bool.false_and, Bool.and_false, Bool.and_true, Bool.true_and]
    go_wp2
    go_ret
    exact ⟨by rw [e0.out]; rfl, HB.out⟩
  have a3 := R1.out 3 _ rfl
  have b3 := R2.out 3 _ rfl
  go_wp2_with fail
  clear a3 b3
  refine (H1.out _ HB.out).mono ?_
  rintro e' w2 ⟨rfl, hb⟩
  replace HB := Lib.hid (below_step (Nat.le_refl _) HB.out hb)
  replace R1 := Lib.hid (R1.out.below hb)
  replace R2 := Lib.hid (R2.out.below hb)
  clear hb H1
  cases K1
  · have e0 : Hid (D = false) := by show _ = _; rw [hdef.out]; simp only [Bool.false_and, Bool.and_false, Bool.and_true, Bool.true_and]
    go_wp2
    go_ret
    exact ⟨by rw [e0.out]; rfl, HB.out⟩
  have a4 := R1.out 4 _ rfl
  have b4 := R2.out 4 _ rfl
  rcases (by cases (c == c') <;> simp : (c == c') = true ∨ (c == c') = false) with hq | hq
  case inr =>
    have e0 : Hid (D = false) := by show _ = _; rw [hdef.out, hq]; simp only [Bool.false_and, Bool.and_false, Bool.and_true, Bool.true_and]
    go_wp2
    go_ret
    exact ⟨by rw [e0.out]; rfl, HB.out⟩
  have HQ := Lib.hid hq
  have a5 := R1.out 5 _ rfl
  have b5 := R2.out 5 _ rfl
  go_wp2_with fail
  clear hq a4 b4 a5 b5
  refine (H3.out _ HB.out).mono ?_
  rintro e' w4 ⟨rfl, hb⟩
  replace HB := Lib.hid (below_step (Nat.le_refl _) HB.out hb)
  replace R1 := Lib.hid (R1.out.below hb)
  replace R2 := Lib.hid (R2.out.below hb)
  clear hb H3
  cases K3
  · have e0 : Hid (D = false) := by show _ = _; rw [hdef.out]; simp only [Bool.false_and, Bool.and_false, Bool.and_true, Bool.true_and]
    go_wp2
    go_ret
    exact ⟨by rw [e0.out]; rfl, HB.out⟩
  have a6 := R1.out 6 _ rfl
  have b6 := R2.out 6 _ rfl
  go_wp2_with fail
  clear a6 b6
  refine (H4.out _ HB.out).mono ?_
  rintro e' w5 ⟨rfl, hb⟩
  replace HB := Lib.hid (below_step (Nat.le_refl _) HB.out hb)
  replace R1 := Lib.hid (R1.out.below hb)
  replace R2 := Lib.hid (R2.out.below hb)
  clear hb H4
  cases K4
  · have e0 : Hid (D = false) := by show _ = _; rw [hdef.out]; simp only [Bool.false_and, Bool.and_false, Bool.and_true, Bool.true_and]
    go_wp2
    go_ret
    exact ⟨by rw [e0.out]; rfl, HB.out⟩
  have e0 : Hid (D = true) := by show _ = _; rw [hdef.out]; rw [HQ.out]; rfl
  go_wp2
  go_ret
  exact ⟨by rw [e0.out]; rfl, HB.out⟩
end Go.Proofs.Ytglfjanclopipaa
