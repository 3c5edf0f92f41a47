/- Walks: a desk: what a valid one is. -/
import Derived.Test.YtglfjanclopipaaDA
import Derived.Test.YtglfjanclopipaaHH
import Derived.Test.YtglfjanclopipaaKR
namespace Go.Proofs.Ytglfjanclopipaa
set_option linter.unusedSimpArgs false
set_option linter.unusedVariables false
open Go.RowKit Go.Fl Go.Lib

abbrev deskV (va vl vd vs : Value) (c : Int) (hub tip : Nat) (A0 A1 A2 A3 P0 P1 P2 P3 P4 P5 P6 P7 : Nat) (st : Int) (sp pi en : Nat) (vx vy : Value) (fr fd fs : Nat) : Value := .agg #[va, vl, vd, vs, .int .i64 c, .float .f32 hub, .float .f32 tip, .float .f32 A0, .float .f32 A1, .float .f32 A2, .float .f32 A3, .float .f32 P0, .float .f32 P1, .float .f32 P2, .float .f32 P3, .float .f32 P4, .float .f32 P5, .float .f32 P6, .float .f32 P7, .int .i64 st, .float .f32 sp, .float .f32 pi, .float .f32 en, vx, vy, .float .f32 fr, .float .f32 fd, .float .f32 fs]
def DeskAt (w : World) (g : Nat) (va vl vd vs : Value) (c : Int) (hub tip : Nat) (A0 A1 A2 A3 P0 P1 P2 P3 P4 P5 P6 P7 : Nat) (st : Int) (sp pi en : Nat) (vx vy : Value) (fr fd fs : Nat) : Prop :=
  RotAt w g va vl vd vs c hub tip ∧ AirAtO w g 7 A0 A1 A2 A3 ∧ DrvAtO w g 11 P0 P1 P2 P3 P4 P5 P6 P7 st sp pi en ∧ FarmAtO w g 23 vx vy fr fd fs
theorem AirAtO.below {w w' : World} {g o a b c d : Nat} (h : AirAtO w g o a b c d) (hb : Below w.heap.size w w') : AirAtO w' g o a b c d := ⟨hcell_below h.1 hb, hcell_below h.2.1 hb, hcell_below h.2.2.1 hb, hcell_below h.2.2.2 hb⟩
theorem PlantAtO.below {w w' : World} {g o i d r l m s c e : Nat} (h : PlantAtO w g o i d r l m s c e) (hb : Below w.heap.size w w') : PlantAtO w' g o i d r l m s c e := by
  obtain ⟨h0, h1, h2, h3, h4, h5, h6, h7⟩ := h
  exact ⟨hcell_below h0 hb, hcell_below h1 hb, hcell_below h2 hb, hcell_below h3 hb, hcell_below h4 hb, hcell_below h5 hb, hcell_below h6 hb, hcell_below h7 hb⟩
theorem DrvAtO.below {w w' : World} {g o i d r l m s c e : Nat} {st : Int} {sp pi en : Nat} (h : DrvAtO w g o i d r l m s c e st sp pi en) (hb : Below w.heap.size w w') : DrvAtO w' g o i d r l m s c e st sp pi en := by
  obtain ⟨h0, h1, h2, h3, h4⟩ := h
  exact ⟨h0.below hb, hcell_below h1 hb, hcell_below h2 hb, hcell_below h3 hb, hcell_below h4 hb⟩
theorem FarmAtO.below {w w' : World} {g o : Nat} {vx vy : Value} {r d s : Nat} (h : FarmAtO w g o vx vy r d s) (hb : Below w.heap.size w w') : FarmAtO w' g o vx vy r d s := ⟨hcell_below h.1 hb, hcell_below h.2.1 hb, hcell_below h.2.2.1 hb, hcell_below h.2.2.2.1 hb, hcell_below h.2.2.2.2 hb⟩
theorem DeskAt.below {w w' : World} {g : Nat} {va vl vd vs : Value} {c : Int} {hub tip A0 A1 A2 A3 P0 P1 P2 P3 P4 P5 P6 P7 : Nat} {st : Int} {sp pi en : Nat} {vx vy : Value} {fr fd fs : Nat} (h : DeskAt w g va vl vd vs c hub tip A0 A1 A2 A3 P0 P1 P2 P3 P4 P5 P6 P7 st sp pi en vx vy fr fd fs) (hb : Below w.heap.size w w') : DeskAt w' g va vl vd vs c hub tip A0 A1 A2 A3 P0 P1 P2 P3 P4 P5 P6 P7 st sp pi en vx vy fr fd fs :=
  ⟨h.1.below hb, h.2.1.below hb, h.2.2.1.below hb, h.2.2.2.below hb⟩
theorem desk_top (w : World) (k : Nat) (hk : k = w.heap.size) (va vl vd vs : Value) (c : Int) (hub tip A0 A1 A2 A3 P0 P1 P2 P3 P4 P5 P6 P7 : Nat) (st : Int) (sp pi en : Nat) (vx vy : Value) (fr fd fs : Nat) (t : TypeId) : DeskAt (w.alloc (.cells #[va, vl, vd, vs, .int .i64 c, .float .f32 hub, .float .f32 tip, .float .f32 A0, .float .f32 A1, .float .f32 A2, .float .f32 A3, .float .f32 P0, .float .f32 P1, .float .f32 P2, .float .f32 P3, .float .f32 P4, .float .f32 P5, .float .f32 P6, .float .f32 P7, .int .i64 st, .float .f32 sp, .float .f32 pi, .float .f32 en, vx, vy, .float .f32 fr, .float .f32 fd, .float .f32 fs] t)) k va vl vd vs c hub tip A0 A1 A2 A3 P0 P1 P2 P3 P4 P5 P6 P7 st sp pi en vx vy fr fd fs := by
  subst hk
  have h : ∀ j v, (#[va, vl, vd, vs, .int .i64 c, .float .f32 hub, .float .f32 tip, .float .f32 A0, .float .f32 A1, .float .f32 A2, .float .f32 A3, .float .f32 P0, .float .f32 P1, .float .f32 P2, .float .f32 P3, .float .f32 P4, .float .f32 P5, .float .f32 P6, .float .f32 P7, .int .i64 st, .float .f32 sp, .float .f32 pi, .float .f32 en, vx, vy, .float .f32 fr, .float .f32 fd, .float .f32 fs] : Array Value)[j]? = some v → (w.alloc (.cells #[va, vl, vd, vs, .int .i64 c, .float .f32 hub, .float .f32 tip, .float .f32 A0, .float .f32 A1, .float .f32 A2, .float .f32 A3, .float .f32 P0, .float .f32 P1, .float .f32 P2, .float .f32 P3, .float .f32 P4, .float .f32 P5, .float .f32 P6, .float .f32 P7, .int .i64 st, .float .f32 sp, .float .f32 pi, .float .f32 en, vx, vy, .float .f32 fr, .float .f32 fd, .float .f32 fs] t)).cell? ⟨w.heap.size, j, none⟩ = some v := fun j v hj => by
    rw [cell_of_row _ _ _ _ t (0, 0) (heap_alloc_new w _)]; exact hj
  exact ⟨⟨⟨h 0 _ rfl, h 1 _ rfl, h 2 _ rfl⟩, h 3 _ rfl, h 4 _ rfl, h 5 _ rfl, h 6 _ rfl⟩, ⟨h 7 _ rfl, h 8 _ rfl, h 9 _ rfl, h 10 _ rfl⟩, ⟨⟨h 11 _ rfl, h 12 _ rfl, h 13 _ rfl, h 14 _ rfl, h 15 _ rfl, h 16 _ rfl, h 17 _ rfl, h 18 _ rfl⟩, h 19 _ rfl, h 20 _ rfl, h 21 _ rfl, h 22 _ rfl⟩, ⟨h 23 _ rfl, h 24 _ rfl, h 25 _ rfl, h 26 _ rfl, h 27 _ rfl⟩⟩
def deskOk (a l d : List Nat) (cs : List Sta) (c : Int) (hub tip A0 A1 A2 A3 P0 P1 P2 P3 P4 P5 P6 P7 : Nat) (st : Int) (sp pi en : Nat) (x y : List Nat) (fr fd fs : Nat) : Bool := (rotOk (profOk a l d) cs c hub tip && airOk A0 A1 A2 A3 && drvOk P0 P1 P2 P3 P4 P5 P6 P7 st sp pi en && farmOk x y fr fd fs)
set_option maxRecDepth 100000 in
set_option maxHeartbeats 2000000 in
theorem s_l08Is (g : Nat) (va vl vd vs : Value) (a l d : List Nat) (cs : List Sta) (c : Int) (hub tip : Nat) (A0 A1 A2 A3 P0 P1 P2 P3 P4 P5 P6 P7 : Nat) (st : Int) (sp pi en : Nat) (vx vy : Value) (x y : List Nat) (fr fd fs : Nat) (w : World) (hg : DeskAt w g va vl vd vs c hub tip A0 A1 A2 A3 P0 P1 P2 P3 P4 P5 P6 P7 st sp pi en vx vy fr fd fs) (ha : RF w va a) (hl : RF w vl l) (hd : RF w vd d) (hs : RT w vs cs) (hx : RF w vx x) (hy : RF w vy y) :
    Calls Try.prog 35 #[.pointer (some ⟨g, 0, none⟩)] w fun e' w' => e' = .returned (.bool (deskOk a l d cs c hub tip A0 A1 A2 A3 P0 P1 P2 P3 P4 P5 P6 P7 st sp pi en x y fr fd fs)) ∧ Below w.heap.size w w' := by
  have H1 := Lib.hid (s_l03Is g va vl vd vs a l d cs c hub tip w hg.1 ha hl hd hs)
  have H2 := Lib.hid (fun W (hb : Below w.heap.size w W) => s_l04IsO g 7 A0 A1 A2 A3 W (hg.2.1.below hb))
  have H3 := Lib.hid (fun W (hb : Below w.heap.size w W) => s_l05Is_ofO g 11 P0 P1 P2 P3 P4 P5 P6 P7 st sp pi en W (hg.2.2.1.below hb) (Lib.hid (s_l05PlantO g 11 P0 P1 P2 P3 P4 P5 P6 P7 W (hg.2.2.1.below hb).1)))
  have H4 := Lib.hid (fun W (hb : Below w.heap.size w W) => s_l06IsO g 23 vx vy x y fr fd fs W (hg.2.2.2.below hb) (RF_below hx hb) (RF_below hy hb))
  have hdef : Hid (deskOk a l d cs c hub tip A0 A1 A2 A3 P0 P1 P2 P3 P4 P5 P6 P7 st sp pi en x y fr fd fs = (rotOk (profOk a l d) cs c hub tip && airOk A0 A1 A2 A3 && drvOk P0 P1 P2 P3 P4 P5 P6 P7 st sp pi en && farmOk x y fr fd fs)) := rfl
  clear hg ha hl hd hs hx hy
  generalize deskOk a l d cs c hub tip A0 A1 A2 A3 P0 P1 P2 P3 P4 P5 P6 P7 st sp pi en x y fr fd fs = D at *
  generalize rotOk (profOk a l d) cs c hub tip = K0 at *
  generalize airOk A0 A1 A2 A3 = K1 at *
  generalize drvOk P0 P1 P2 P3 P4 P5 P6 P7 st sp pi en = K2 at *
  generalize farmOk x y fr fd fs = K3 at *
  go_enter Try.func35, Try.ntmps35
  go_wp2_with fail
  refine H1.out.mono ?_
  rintro e' w1 ⟨rfl, hb⟩
  have HB := Lib.hid hb
  clear hb H1
  cases K0
  · have e0 : Hid (D = false) := by show _ = _; rw [hdef.out]; simp only [Bool.false_and]
    go_wp2
    go_ret
    exact ⟨by rw [e0.out]; rfl, HB.out⟩
  go_wp2_with fail
  refine (H2.out _ HB.out).mono ?_
  rintro e' w2 ⟨rfl, n2, rfl⟩
  replace HB := Lib.hid (below_drewN HB.out n2)
  cases K1
  · have e0 : Hid (D = false) := by show _ = _; rw [hdef.out]; simp only [Bool.and_false, Bool.false_and]
    go_wp2
    go_ret
    exact ⟨by rw [e0.out]; rfl, HB.out⟩
  go_wp2_with fail
  refine (H3.out _ HB.out).mono ?_
  rintro e' w3 ⟨rfl, n3, rfl⟩
  replace HB := Lib.hid (below_drewN HB.out n3)
  cases K2
  · have e0 : Hid (D = false) := by show _ = _; rw [hdef.out]; simp only [Bool.and_false, Bool.false_and]
    go_wp2
    go_ret
    exact ⟨by rw [e0.out]; rfl, by first | exact HB.out | (have h := HB.out; simp only [World.drewN_drewN] at h; exact h)⟩
  go_wp2_with fail
  refine (H4.out _ (by first | exact HB.out | (have h := HB.out; simp only [World.drewN_drewN] at h; exact h))).mono ?_
  rintro e' w4 ⟨rfl, n4, rfl⟩
  have HB4 := Lib.hid (below_drewN HB.out n4)
  clear HB
  cases K3
  · have e0 : Hid (D = false) := by show _ = _; rw [hdef.out]; simp only [Bool.and_false]
    go_wp2
    go_ret
    exact ⟨by rw [e0.out]; rfl, by first | exact HB4.out | (have h := HB4.out; simp only [World.drewN_drewN] at h; (first | exact h | (simp only [World.drewN_drewN]; exact h)))⟩
  have e0 : Hid (D = true) := by show _ = _; rw [hdef.out]; rfl
  go_wp2
  go_ret
  exact ⟨by rw [e0.out]; rfl, by first | exact HB4.out | (have h := HB4.out; simp only [World.drewN_drewN] at h; (first | exact h | (simp only [World.drewN_drewN]; exact h)))⟩
set_option maxHeartbeats 1000000 in
theorem s_ValidDesk (va vl vd vs : Value) (a l d : List Nat) (cs : List Sta) (c : Int) (hub tip : Nat) (A0 A1 A2 A3 P0 P1 P2 P3 P4 P5 P6 P7 : Nat) (st : Int) (sp pi en : Nat) (vx vy : Value) (x y : List Nat) (fr fd fs : Nat) (w : World) (ha : RF w va a) (hl : RF w vl l) (hd : RF w vd d) (hs : RT w vs cs) (hx : RF w vx x) (hy : RF w vy y) :
    Calls Try.prog 11 #[deskV va vl vd vs c hub tip A0 A1 A2 A3 P0 P1 P2 P3 P4 P5 P6 P7 st sp pi en vx vy fr fd fs] w fun e' w' => e' = .returned (.bool (deskOk a l d cs c hub tip A0 A1 A2 A3 P0 P1 P2 P3 P4 P5 P6 P7 st sp pi en x y fr fd fs)) ∧ Below w.heap.size w w' := by
  have H := Lib.hid (s_l08Is w.heap.size va vl vd vs a l d cs c hub tip A0 A1 A2 A3 P0 P1 P2 P3 P4 P5 P6 P7 st sp pi en vx vy x y fr fd fs _ (desk_top w _ rfl va vl vd vs c hub tip A0 A1 A2 A3 P0 P1 P2 P3 P4 P5 P6 P7 st sp pi en vx vy fr fd fs 51) (ha.alloc _) (hl.alloc _) (hd.alloc _) (RT_below hs (below_alloc (Nat.le_refl _) (Below.refl _ _) _)) (hx.alloc _) (hy.alloc _))
  clear ha hl hd hs hx hy
  generalize deskOk a l d cs c hub tip A0 A1 A2 A3 P0 P1 P2 P3 P4 P5 P6 P7 st sp pi en x y fr fd fs = D at *
  go_enter Try.func11, Try.ntmps11
  go_wp2_with fail
  refine H.out.mono ?_
  rintro e' w1 ⟨rfl, hb⟩
  have HB := Lib.hid (below_step (Nat.le_refl _) (below_alloc (Nat.le_refl _) (Below.refl _ _) _) hb)
  clear hb
  go_wp2
  go_ret
  exact ⟨rfl, HB.out⟩
set_option maxRecDepth 100000 in
set_option maxHeartbeats 2000000 in
theorem i_ValidDesk (va vl vd vs : Value) (a l d : List Nat) (cs : List Sta) (c : Int) (hub tip : Nat) (A0 A1 A2 A3 P0 P1 P2 P3 P4 P5 P6 P7 : Nat) (st : Int) (sp pi en : Nat) (vx vy : Value) (x y : List Nat) (fr fd fs : Nat) (w : World) (ha : RF w va a) (hl : RF w vl l) (hd : RF w vd d) (hs : RT w vs cs) (hx : RF w vx x) (hy : RF w vy y) :
    Calls Try.prog 12 #[deskV va vl vd vs c hub tip A0 A1 A2 A3 P0 P1 P2 P3 P4 P5 P6 P7 st sp pi en vx vy fr fd fs] w fun e' w' => e' = .returned (.bool (deskOk a l d cs c hub tip A0 A1 A2 A3 P0 P1 P2 P3 P4 P5 P6 P7 st sp pi en x y fr fd fs)) ∧ Below w.heap.size w w' := by
  have H1 := Lib.hid (fun W (hb : Below w.heap.size w W) => i_ValidRotor va vl vd vs a l d cs c hub tip W (RF_below ha hb) (RF_below hl hb) (RF_below hd hb) (RT_below hs hb))
  have H2 := Lib.hid (fun W => i_ValidAir A0 A1 A2 A3 W)
  have H3 := Lib.hid (fun W => i_ValidDrive P0 P1 P2 P3 P4 P5 P6 P7 st sp pi en W)
  have H4 := Lib.hid (fun W (hb : Below w.heap.size w W) => i_ValidFarm vx vy x y fr fd fs W (RF_below hx hb) (RF_below hy hb))
  have hdef : Hid (deskOk a l d cs c hub tip A0 A1 A2 A3 P0 P1 P2 P3 P4 P5 P6 P7 st sp pi en x y fr fd fs = (rotOk (profOk a l d) cs c hub tip && airOk A0 A1 A2 A3 && drvOk P0 P1 P2 P3 P4 P5 P6 P7 st sp pi en && farmOk x y fr fd fs)) := rfl
  clear ha hl hd hs hx hy
  generalize deskOk a l d cs c hub tip A0 A1 A2 A3 P0 P1 P2 P3 P4 P5 P6 P7 st sp pi en x y fr fd fs = D at *
  generalize rotOk (profOk a l d) cs c hub tip = K0 at *
  generalize airOk A0 A1 A2 A3 = K1 at *
  generalize drvOk P0 P1 P2 P3 P4 P5 P6 P7 st sp pi en = K2 at *
  generalize farmOk x y fr fd fs = K3 at *
  go_enter Try.func12, Try.ntmps12
  go_wp2_with fail
  have HB : Hid (Below w.heap.size w (w.alloc (.cells #[va, vl, vd, vs, .int .i64 c, .float .f32 hub, .float .f32 tip, .float .f32 A0, .float .f32 A1, .float .f32 A2, .float .f32 A3, .float .f32 P0, .float .f32 P1, .float .f32 P2, .float .f32 P3, .float .f32 P4, .float .f32 P5, .float .f32 P6, .float .f32 P7, .int .i64 st, .float .f32 sp, .float .f32 pi, .float .f32 en, vx, vy, .float .f32 fr, .float .f32 fd, .float .f32 fs] 51))) := below_alloc (Nat.le_refl _) (Below.refl _ _) _
  have HD := Lib.hid (desk_top w _ rfl va vl vd vs c hub tip A0 A1 A2 A3 P0 P1 P2 P3 P4 P5 P6 P7 st sp pi en vx vy fr fd fs 51)
  refine (H1.out _ HB.out).mono ?_
  rintro e' w1 ⟨rfl, hb⟩
  replace HD := Lib.hid (HD.out.below hb)
  replace HB := Lib.hid (below_step (Nat.le_refl _) HB.out hb)
  clear hb H1
  generalize w.heap.size = g at HD ⊢
  cases K0
  · have e0 : Hid (D = false) := by show _ = _; rw [hdef.out]; simp only [Bool.false_and]
    go_wp2
    go_ret
    exact ⟨by rw [e0.out]; rfl, HB.out⟩
  obtain ⟨-, ⟨b0, b1, b2, b3⟩, -, -⟩ := HD.out
  simp only [Nat.reduceAdd] at b0 b1 b2 b3
  go_wp2_with fail
  refine (H2.out _).mono ?_
  rintro e' w2 ⟨rfl, hb⟩
  clear b0 b1 b2 b3
  replace HD := Lib.hid (HD.out.below hb)
  replace HB := Lib.hid (below_step (Nat.le_refl _) HB.out hb)
  clear hb H2
  cases K1
  · have e0 : Hid (D = false) := by show _ = _; rw [hdef.out]; simp only [Bool.and_false, Bool.false_and]
    go_wp2
    go_ret
    exact ⟨by rw [e0.out]; rfl, HB.out⟩
  obtain ⟨-, -, ⟨⟨b0, b1, b2, b3, b4, b5, b6, b7⟩, b8, b9, b10, b11⟩, -⟩ := HD.out
  simp only [Nat.reduceAdd] at b0 b1 b2 b3 b4 b5 b6 b7 b8 b9 b10 b11
  go_wp2_with fail
  refine (H3.out _).mono ?_
  rintro e' w3 ⟨rfl, hb⟩
  clear b0 b1 b2 b3 b4 b5 b6 b7 b8 b9 b10 b11
  replace HD := Lib.hid (HD.out.below hb)
  replace HB := Lib.hid (below_step (Nat.le_refl _) HB.out hb)
  clear hb H3
  cases K2
  · have e0 : Hid (D = false) := by show _ = _; rw [hdef.out]; simp only [Bool.and_false, Bool.false_and]
    go_wp2
    go_ret
    exact ⟨by rw [e0.out]; rfl, HB.out⟩
  obtain ⟨-, -, -, ⟨b0, b1, b2, b3, b4⟩⟩ := HD.out
  simp only [Nat.reduceAdd] at b0 b1 b2 b3 b4
  go_wp2_with fail
  refine (H4.out _ HB.out).mono ?_
  rintro e' w4 ⟨rfl, hb⟩
  replace HB := Lib.hid (below_step (Nat.le_refl _) HB.out hb)
  clear hb H4 b0 b1 b2 b3 b4
  cases K3
  · have e0 : Hid (D = false) := by show _ = _; rw [hdef.out]; simp only [Bool.and_false]
    go_wp2
    go_ret
    exact ⟨by rw [e0.out]; rfl, HB.out⟩
  have e0 : Hid (D = true) := by show _ = _; rw [hdef.out]; rfl
  go_wp2
  go_ret
  exact ⟨by rw [e0.out]; rfl, HB.out⟩
end Go.Proofs.Ytglfjanclopipaa
