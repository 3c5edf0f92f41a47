/- Walks: the same desks, both. -/
import Derived.Test.YtglfjanclopipaaSD
import Derived.Test.YtglfjanclopipaaDF
namespace Go.Proofs.Ytglfjanclopipaa
set_option linter.unusedSimpArgs false
set_option linter.unusedVariables false
open Go.RowKit Go.Fl Go.Lib

def Dsk.same (X Y : Dsk) : Bool := sameRot X.a X.l X.d X.cs X.c X.hub X.tip Y.a Y.l Y.d Y.cs Y.c Y.hub Y.tip && sameAir X.A0 X.A1 X.A2 X.A3 Y.A0 Y.A1 Y.A2 Y.A3 && sameDrv X.P0 X.P1 X.P2 X.P3 X.P4 X.P5 X.P6 X.P7 X.st X.sp X.pi X.en Y.P0 Y.P1 Y.P2 Y.P3 Y.P4 Y.P5 Y.P6 Y.P7 Y.st Y.sp Y.pi Y.en && sameFarm X.x X.y X.fr X.fd X.fs Y.x Y.y Y.fr Y.fd Y.fs
theorem staG_of {cs : List Sta} (h : Bd (staF cs)) : ∀ s ∈ cs, StaG s := fun s hs => by
  have k : ∀ x, x ∈ [s.ra, s.ch, s.tw] → x < 4294967296 := fun x hx => h x (List.mem_flatMap.2 ⟨s, hs, hx⟩)
  exact ⟨k _ (by simp), k _ (by simp), k _ (by simp)⟩
theorem bd_app {a b : List Nat} (h : Bd a) (k : Bd b) : Bd (a ++ b) := fun x hx => by
  rcases List.mem_append.1 hx with hx | hx
  · exact h x hx
  · exact k x hx

theorem rot_of {w : World} {g : Nat} {X : Dsk} {va vl vd vs vx vy : Value} (R : Row w g [va, vl, vd, vs, .int .i64 X.c, .float .f32 X.hub, .float .f32 X.tip, .float .f32 X.A0, .float .f32 X.A1, .float .f32 X.A2, .float .f32 X.A3, .float .f32 X.P0, .float .f32 X.P1, .float .f32 X.P2, .float .f32 X.P3, .float .f32 X.P4, .float .f32 X.P5, .float .f32 X.P6, .float .f32 X.P7, .int .i64 X.st, .float .f32 X.sp, .float .f32 X.pi, .float .f32 X.en, vx, vy, .float .f32 X.fr, .float .f32 X.fd, .float .f32 X.fs]) : RotAt w g va vl vd vs X.c X.hub X.tip := ⟨⟨R 0 _ rfl, R 1 _ rfl, R 2 _ rfl⟩, R 3 _ rfl, R 4 _ rfl, R 5 _ rfl, R 6 _ rfl⟩
theorem air_of {w : World} {g : Nat} {X : Dsk} {va vl vd vs vx vy : Value} (R : Row w g [va, vl, vd, vs, .int .i64 X.c, .float .f32 X.hub, .float .f32 X.tip, .float .f32 X.A0, .float .f32 X.A1, .float .f32 X.A2, .float .f32 X.A3, .float .f32 X.P0, .float .f32 X.P1, .float .f32 X.P2, .float .f32 X.P3, .float .f32 X.P4, .float .f32 X.P5, .float .f32 X.P6, .float .f32 X.P7, .int .i64 X.st, .float .f32 X.sp, .float .f32 X.pi, .float .f32 X.en, vx, vy, .float .f32 X.fr, .float .f32 X.fd, .float .f32 X.fs]) : AirAtO w g 7 X.A0 X.A1 X.A2 X.A3 := ⟨R 7 _ rfl, R 8 _ rfl, R 9 _ rfl, R 10 _ rfl⟩
theorem drv_of {w : World} {g : Nat} {X : Dsk} {va vl vd vs vx vy : Value} (R : Row w g [va, vl, vd, vs, .int .i64 X.c, .float .f32 X.hub, .float .f32 X.tip, .float .f32 X.A0, .float .f32 X.A1, .float .f32 X.A2, .float .f32 X.A3, .float .f32 X.P0, .float .f32 X.P1, .float .f32 X.P2, .float .f32 X.P3, .float .f32 X.P4, .float .f32 X.P5, .float .f32 X.P6, .float .f32 X.P7, .int .i64 X.st, .float .f32 X.sp, .float .f32 X.pi, .float .f32 X.en, vx, vy, .float .f32 X.fr, .float .f32 X.fd, .float .f32 X.fs]) : DrvAtO w g 11 X.P0 X.P1 X.P2 X.P3 X.P4 X.P5 X.P6 X.P7 X.st X.sp X.pi X.en := ⟨⟨R 11 _ rfl, R 12 _ rfl, R 13 _ rfl, R 14 _ rfl, R 15 _ rfl, R 16 _ rfl, R 17 _ rfl, R 18 _ rfl⟩, R 19 _ rfl, R 20 _ rfl, R 21 _ rfl, R 22 _ rfl⟩
theorem farm_of {w : World} {g : Nat} {X : Dsk} {va vl vd vs vx vy : Value} (R : Row w g [va, vl, vd, vs, .int .i64 X.c, .float .f32 X.hub, .float .f32 X.tip, .float .f32 X.A0, .float .f32 X.A1, .float .f32 X.A2, .float .f32 X.A3, .float .f32 X.P0, .float .f32 X.P1, .float .f32 X.P2, .float .f32 X.P3, .float .f32 X.P4, .float .f32 X.P5, .float .f32 X.P6, .float .f32 X.P7, .int .i64 X.st, .float .f32 X.sp, .float .f32 X.pi, .float .f32 X.en, vx, vy, .float .f32 X.fr, .float .f32 X.fd, .float .f32 X.fs]) : FarmAtO w g 23 vx vy X.fr X.fd X.fs := ⟨R 23 _ rfl, R 24 _ rfl, R 25 _ rfl, R 26 _ rfl, R 27 _ rfl⟩
set_option maxRecDepth 100000 in
set_option maxHeartbeats 2000000 in
theorem i_SameDesk' (X Y : Dsk) (va vl vd vs vx vy va' vl' vd' vs' vx' vy' : Value) (w : World) (ha : RF w va X.a) (ha' : RF w va' Y.a) (hl : RF w vl X.l) (hl' : RF w vl' Y.l) (hd : RF w vd X.d) (hd' : RF w vd' Y.d) (hx : RF w vx X.x) (hx' : RF w vx' Y.x) (hy : RF w vy X.y) (hy' : RF w vy' Y.y) (hs : RT w vs X.cs) (hs' : RT w vs' Y.cs) (bD : X.BD) (bE : Y.BD) : Calls Try.prog 9 #[.agg #[va, vl, vd, vs, .int .i64 X.c, .float .f32 X.hub, .float .f32 X.tip, .float .f32 X.A0, .float .f32 X.A1, .float .f32 X.A2, .float .f32 X.A3, .float .f32 X.P0, .float .f32 X.P1, .float .f32 X.P2, .float .f32 X.P3, .float .f32 X.P4, .float .f32 X.P5, .float .f32 X.P6, .float .f32 X.P7, .int .i64 X.st, .float .f32 X.sp, .float .f32 X.pi, .float .f32 X.en, vx, vy, .float .f32 X.fr, .float .f32 X.fd, .float .f32 X.fs], .agg #[va', vl', vd', vs', .int .i64 Y.c, .float .f32 Y.hub, .float .f32 Y.tip, .float .f32 Y.A0, .float .f32 Y.A1, .float .f32 Y.A2, .float .f32 Y.A3, .float .f32 Y.P0, .float .f32 Y.P1, .float .f32 Y.P2, .float .f32 Y.P3, .float .f32 Y.P4, .float .f32 Y.P5, .float .f32 Y.P6, .float .f32 Y.P7, .int .i64 Y.st, .float .f32 Y.sp, .float .f32 Y.pi, .float .f32 Y.en, vx', vy', .float .f32 Y.fr, .float .f32 Y.fd, .float .f32 Y.fs]] w fun e' w' => e' = .returned (.bool (Dsk.same X Y)) ∧ Below w.heap.size w w' := by
  obtain ⟨⟨ta, tl, td⟩, ts, t1, t2, t3, t4, ⟨tx, ty⟩, t5⟩ := bD
  obtain ⟨⟨ta', tl', td'⟩, ts', t1', t2', t3', t4', ⟨tx', ty'⟩, t5'⟩ := bE
  have H0 := Lib.hid (fun W (hb : Below w.heap.size w W) => i_SameRotor va vl vd vs X.a X.l X.d X.cs X.c X.hub X.tip va' vl' vd' vs' Y.a Y.l Y.d Y.cs Y.c Y.hub Y.tip W (RF_below ha hb) ta (RF_below hl hb) tl (RF_below hd hb) td (RF_below ha' hb) ta' (RF_below hl' hb) tl' (RF_below hd' hb) td' (RT_below hs hb) (staG_of ts) (RT_below hs' hb) (staG_of ts') (bd_app t1 t1'))
  have H1 := Lib.hid (fun W (hb : Below w.heap.size w W) => i_SameAir X.A0 X.A1 X.A2 X.A3 Y.A0 Y.A1 Y.A2 Y.A3 W (bd_app t2 t2'))
  have H2 := Lib.hid (fun W (hb : Below w.heap.size w W) => i_SameDrive X.P0 X.P1 X.P2 X.P3 X.P4 X.P5 X.P6 X.P7 X.st X.sp X.pi X.en Y.P0 Y.P1 Y.P2 Y.P3 Y.P4 Y.P5 Y.P6 Y.P7 Y.st Y.sp Y.pi Y.en W t3 t3' (bd_app t4 t4'))
  have H3 := Lib.hid (fun W (hb : Below w.heap.size w W) => i_SameFarm vx vy vx' vy' X.x X.y X.fr X.fd X.fs Y.x Y.y Y.fr Y.fd Y.fs W (RF_below hx hb) tx (RF_below hy hb) ty (RF_below hx' hb) tx' (RF_below hy' hb) ty' (bd_app t5 t5'))
  have hdef : Hid (Dsk.same X Y = (sameRot X.a X.l X.d X.cs X.c X.hub X.tip Y.a Y.l Y.d Y.cs Y.c Y.hub Y.tip && sameAir X.A0 X.A1 X.A2 X.A3 Y.A0 Y.A1 Y.A2 Y.A3 && sameDrv X.P0 X.P1 X.P2 X.P3 X.P4 X.P5 X.P6 X.P7 X.st X.sp X.pi X.en Y.P0 Y.P1 Y.P2 Y.P3 Y.P4 Y.P5 Y.P6 Y.P7 Y.st Y.sp Y.pi Y.en && sameFarm X.x X.y X.fr X.fd X.fs Y.x Y.y Y.fr Y.fd Y.fs)) := rfl
  clear ha ha' hl hl' hd hd' hx hx' hy hy' hs hs' ta tl td ts t1 t2 t3 t4 tx ty t5 ta' tl' td' ts' t1' t2' t3' t4' tx' ty' t5'
  generalize Dsk.same X Y = D at *
  generalize sameRot X.a X.l X.d X.cs X.c X.hub X.tip Y.a Y.l Y.d Y.cs Y.c Y.hub Y.tip = K0 at *
  generalize sameAir X.A0 X.A1 X.A2 X.A3 Y.A0 Y.A1 Y.A2 Y.A3 = K1 at *
  generalize sameDrv X.P0 X.P1 X.P2 X.P3 X.P4 X.P5 X.P6 X.P7 X.st X.sp X.pi X.en Y.P0 Y.P1 Y.P2 Y.P3 Y.P4 Y.P5 Y.P6 Y.P7 Y.st Y.sp Y.pi Y.en = K2 at *
  generalize sameFarm X.x X.y X.fr X.fd X.fs Y.x Y.y Y.fr Y.fd Y.fs = K3 at *
  go_enter Try.func9, Try.ntmps9
  go_wp2_with fail
  obtain ⟨w0, hw0⟩ : ∃ w0, w0 = ((w.alloc (.cells #[va, vl, vd, vs, .int .i64 X.c, .float .f32 X.hub, .float .f32 X.tip, .float .f32 X.A0, .float .f32 X.A1, .float .f32 X.A2, .float .f32 X.A3, .float .f32 X.P0, .float .f32 X.P1, .float .f32 X.P2, .float .f32 X.P3, .float .f32 X.P4, .float .f32 X.P5, .float .f32 X.P6, .float .f32 X.P7, .int .i64 X.st, .float .f32 X.sp, .float .f32 X.pi, .float .f32 X.en, vx, vy, .float .f32 X.fr, .float .f32 X.fd, .float .f32 X.fs] 51)).alloc (.cells #[va', vl', vd', vs', .int .i64 Y.c, .float .f32 Y.hub, .float .f32 Y.tip, .float .f32 Y.A0, .float .f32 Y.A1, .float .f32 Y.A2, .float .f32 Y.A3, .float .f32 Y.P0, .float .f32 Y.P1, .float .f32 Y.P2, .float .f32 Y.P3, .float .f32 Y.P4, .float .f32 Y.P5, .float .f32 Y.P6, .float .f32 Y.P7, .int .i64 Y.st, .float .f32 Y.sp, .float .f32 Y.pi, .float .f32 Y.en, vx', vy', .float .f32 Y.fr, .float .f32 Y.fd, .float .f32 Y.fs] 51)) := ⟨_, rfl⟩
  have HB : Hid (Below w.heap.size w w0) := by rw [hw0]; exact (by repeat (first | exact Below.refl _ _ | assumption | refine below_drewN ?_ _ | refine below_alloc (Nat.le_refl _) ?_ _ | (refine Below.setCell ?_ (by first | exact Nat.le_refl _ | (simp; done) | (simp; omega) | omega) _) | (refine below_step (Nat.le_refl _) ?_ (by assumption))))
  have R1 : Hid (Row w0 w.heap.size [va, vl, vd, vs, .int .i64 X.c, .float .f32 X.hub, .float .f32 X.tip, .float .f32 X.A0, .float .f32 X.A1, .float .f32 X.A2, .float .f32 X.A3, .float .f32 X.P0, .float .f32 X.P1, .float .f32 X.P2, .float .f32 X.P3, .float .f32 X.P4, .float .f32 X.P5, .float .f32 X.P6, .float .f32 X.P7, .int .i64 X.st, .float .f32 X.sp, .float .f32 X.pi, .float .f32 X.en, vx, vy, .float .f32 X.fr, .float .f32 X.fd, .float .f32 X.fs]) := by rw [hw0]; exact (row_top w _ rfl #[va, vl, vd, vs, .int .i64 X.c, .float .f32 X.hub, .float .f32 X.tip, .float .f32 X.A0, .float .f32 X.A1, .float .f32 X.A2, .float .f32 X.A3, .float .f32 X.P0, .float .f32 X.P1, .float .f32 X.P2, .float .f32 X.P3, .float .f32 X.P4, .float .f32 X.P5, .float .f32 X.P6, .float .f32 X.P7, .int .i64 X.st, .float .f32 X.sp, .float .f32 X.pi, .float .f32 X.en, vx, vy, .float .f32 X.fr, .float .f32 X.fd, .float .f32 X.fs] 51).below (below_alloc (Nat.le_refl _) (Below.refl _ _) _)
  have R2 : Hid (Row w0 (w.heap.size + 1) [va', vl', vd', vs', .int .i64 Y.c, .float .f32 Y.hub, .float .f32 Y.tip, .float .f32 Y.A0, .float .f32 Y.A1, .float .f32 Y.A2, .float .f32 Y.A3, .float .f32 Y.P0, .float .f32 Y.P1, .float .f32 Y.P2, .float .f32 Y.P3, .float .f32 Y.P4, .float .f32 Y.P5, .float .f32 Y.P6, .float .f32 Y.P7, .int .i64 Y.st, .float .f32 Y.sp, .float .f32 Y.pi, .float .f32 Y.en, vx', vy', .float .f32 Y.fr, .float .f32 Y.fd, .float .f32 Y.fs]) := by rw [hw0]; exact row_top _ _ (by simp) #[va', vl', vd', vs', .int .i64 Y.c, .float .f32 Y.hub, .float .f32 Y.tip, .float .f32 Y.A0, .float .f32 Y.A1, .float .f32 Y.A2, .float .f32 Y.A3, .float .f32 Y.P0, .float .f32 Y.P1, .float .f32 Y.P2, .float .f32 Y.P3, .float .f32 Y.P4, .float .f32 Y.P5, .float .f32 Y.P6, .float .f32 Y.P7, .int .i64 Y.st, .float .f32 Y.sp, .float .f32 Y.pi, .float .f32 Y.en, vx', vy', .float .f32 Y.fr, .float .f32 Y.fd, .float .f32 Y.fs] 51
  rw [← hw0]
  clear hw0
  refine (H0.out _ HB.out).mono ?_
  rintro e' w1 ⟨rfl, hb⟩
  replace HB := Lib.hid (below_step (Nat.le_refl _) HB.out hb)
  replace R1 := Lib.hid (R1.out.below hb)
  replace R2 := Lib.hid (R2.out.below hb)
  clear hb H0
  cases K0
  · have e0 : Hid (D = false) := by show _ = _; rw [hdef.out]; simp only [Bool.false_and, Bool.and_false, Bool.and_true, Bool.true_and]
    go_wp2
    go_ret
    exact ⟨by rw [e0.out]; rfl, HB.out⟩
  have a7 := R1.out 7 _ rfl
  have b7 := R2.out 7 _ rfl
  have a8 := R1.out 8 _ rfl
  have b8 := R2.out 8 _ rfl
  have a9 := R1.out 9 _ rfl
  have b9 := R2.out 9 _ rfl
  have a10 := R1.out 10 _ rfl
  have b10 := R2.out 10 _ rfl
  go_wp2_with fail
  clear a7 b7 a8 b8 a9 b9 a10 b10
  refine (H1.out _ HB.out).mono ?_
  rintro e' w2 ⟨rfl, hb⟩
  replace HB := Lib.hid (below_step (Nat.le_refl _) HB.out hb)
  replace R1 := Lib.hid (R1.out.below hb)
  replace R2 := Lib.hid (R2.out.below hb)
  clear hb H1
  cases K1
  · have e0 : Hid (D = false) := by show _ = _; rw [hdef.out]; simp only [Bool.false_and, Bool.and_false, Bool.and_true, Bool.true_and]
    go_wp2
    go_ret
    exact ⟨by rw [e0.out]; rfl, HB.out⟩
  have a11 := R1.out 11 _ rfl
  have b11 := R2.out 11 _ rfl
  have a12 := R1.out 12 _ rfl
  have b12 := R2.out 12 _ rfl
  have a13 := R1.out 13 _ rfl
  have b13 := R2.out 13 _ rfl
  have a14 := R1.out 14 _ rfl
  have b14 := R2.out 14 _ rfl
  have a15 := R1.out 15 _ rfl
  have b15 := R2.out 15 _ rfl
  have a16 := R1.out 16 _ rfl
  have b16 := R2.out 16 _ rfl
  have a17 := R1.out 17 _ rfl
  have b17 := R2.out 17 _ rfl
  have a18 := R1.out 18 _ rfl
  have b18 := R2.out 18 _ rfl
  have a19 := R1.out 19 _ rfl
  have b19 := R2.out 19 _ rfl
  have a20 := R1.out 20 _ rfl
  have b20 := R2.out 20 _ rfl
  have a21 := R1.out 21 _ rfl
  have b21 := R2.out 21 _ rfl
  have a22 := R1.out 22 _ rfl
  have b22 := R2.out 22 _ rfl
  go_wp2_with fail
  clear a11 b11 a12 b12 a13 b13 a14 b14 a15 b15 a16 b16 a17 b17 a18 b18 a19 b19 a20 b20 a21 b21 a22 b22
  refine (H2.out _ HB.out).mono ?_
  rintro e' w3 ⟨rfl, hb⟩
  replace HB := Lib.hid (below_step (Nat.le_refl _) HB.out hb)
  replace R1 := Lib.hid (R1.out.below hb)
  replace R2 := Lib.hid (R2.out.below hb)
  clear hb H2
  cases K2
  · have e0 : Hid (D = false) := by show _ = _; rw [hdef.out]; simp only [Bool.false_and, Bool.and_false, Bool.and_true, Bool.true_and]
    go_wp2
    go_ret
    exact ⟨by rw [e0.out]; rfl, HB.out⟩
  have a23 := R1.out 23 _ rfl
  have b23 := R2.out 23 _ rfl
  have a24 := R1.out 24 _ rfl
  have b24 := R2.out 24 _ rfl
  have a25 := R1.out 25 _ rfl
  have b25 := R2.out 25 _ rfl
  have a26 := R1.out 26 _ rfl
  have b26 := R2.out 26 _ rfl
  have a27 := R1.out 27 _ rfl
  have b27 := R2.out 27 _ rfl
  go_wp2_with fail
  clear a23 b23 a24 b24 a25 b25 a26 b26 a27 b27
  refine (H3.out _ HB.out).mono ?_
  rintro e' w4 ⟨rfl, hb⟩
  replace HB := Lib.hid (below_step (Nat.le_refl _) HB.out hb)
  replace R1 := Lib.hid (R1.out.below hb)
  replace R2 := Lib.hid (R2.out.below hb)
  clear hb H3
  cases K3
  · have e0 : Hid (D = false) := by show _ = _; rw [hdef.out]; simp only [Bool.false_and, Bool.and_false, Bool.and_true, Bool.true_and]
    go_wp2
    go_ret
    exact ⟨by rw [e0.out]; rfl, HB.out⟩
  have e0 : Hid (D = true) := by show _ = _; rw [hdef.out]; rfl
  go_wp2
  go_ret
  exact ⟨by rw [e0.out]; rfl, HB.out⟩
set_option maxRecDepth 100000 in
set_option maxHeartbeats 2000000 in
theorem s_SameDesk' (X Y : Dsk) (va vl vd vs vx vy va' vl' vd' vs' vx' vy' : Value) (w : World) (ha : RF w va X.a) (ha' : RF w va' Y.a) (hl : RF w vl X.l) (hl' : RF w vl' Y.l) (hd : RF w vd X.d) (hd' : RF w vd' Y.d) (hx : RF w vx X.x) (hx' : RF w vx' Y.x) (hy : RF w vy X.y) (hy' : RF w vy' Y.y) (hs : RT w vs X.cs) (hs' : RT w vs' Y.cs) (bD : X.BD) (bE : Y.BD) : Calls Try.prog 7 #[.agg #[va, vl, vd, vs, .int .i64 X.c, .float .f32 X.hub, .float .f32 X.tip, .float .f32 X.A0, .float .f32 X.A1, .float .f32 X.A2, .float .f32 X.A3, .float .f32 X.P0, .float .f32 X.P1, .float .f32 X.P2, .float .f32 X.P3, .float .f32 X.P4, .float .f32 X.P5, .float .f32 X.P6, .float .f32 X.P7, .int .i64 X.st, .float .f32 X.sp, .float .f32 X.pi, .float .f32 X.en, vx, vy, .float .f32 X.fr, .float .f32 X.fd, .float .f32 X.fs], .agg #[va', vl', vd', vs', .int .i64 Y.c, .float .f32 Y.hub, .float .f32 Y.tip, .float .f32 Y.A0, .float .f32 Y.A1, .float .f32 Y.A2, .float .f32 Y.A3, .float .f32 Y.P0, .float .f32 Y.P1, .float .f32 Y.P2, .float .f32 Y.P3, .float .f32 Y.P4, .float .f32 Y.P5, .float .f32 Y.P6, .float .f32 Y.P7, .int .i64 Y.st, .float .f32 Y.sp, .float .f32 Y.pi, .float .f32 Y.en, vx', vy', .float .f32 Y.fr, .float .f32 Y.fd, .float .f32 Y.fs]] w fun e' w' => e' = .returned (.bool (Dsk.same X Y)) ∧ Below w.heap.size w w' := by
  obtain ⟨⟨ta, tl, td⟩, ts, t1, t2, t3, t4, ⟨tx, ty⟩, t5⟩ := bD
  obtain ⟨⟨ta', tl', td'⟩, ts', t1', t2', t3', t4', ⟨tx', ty'⟩, t5'⟩ := bE
  have H0 := Lib.hid (fun W (hb : Below w.heap.size w W) (r1 : Row W w.heap.size [va, vl, vd, vs, .int .i64 X.c, .float .f32 X.hub, .float .f32 X.tip, .float .f32 X.A0, .float .f32 X.A1, .float .f32 X.A2, .float .f32 X.A3, .float .f32 X.P0, .float .f32 X.P1, .float .f32 X.P2, .float .f32 X.P3, .float .f32 X.P4, .float .f32 X.P5, .float .f32 X.P6, .float .f32 X.P7, .int .i64 X.st, .float .f32 X.sp, .float .f32 X.pi, .float .f32 X.en, vx, vy, .float .f32 X.fr, .float .f32 X.fd, .float .f32 X.fs]) (r2 : Row W (w.heap.size + 1) [va', vl', vd', vs', .int .i64 Y.c, .float .f32 Y.hub, .float .f32 Y.tip, .float .f32 Y.A0, .float .f32 Y.A1, .float .f32 Y.A2, .float .f32 Y.A3, .float .f32 Y.P0, .float .f32 Y.P1, .float .f32 Y.P2, .float .f32 Y.P3, .float .f32 Y.P4, .float .f32 Y.P5, .float .f32 Y.P6, .float .f32 Y.P7, .int .i64 Y.st, .float .f32 Y.sp, .float .f32 Y.pi, .float .f32 Y.en, vx', vy', .float .f32 Y.fr, .float .f32 Y.fd, .float .f32 Y.fs]) => s_l03Same w.heap.size (w.heap.size + 1) va vl vd vs X.a X.l X.d X.cs X.c X.hub X.tip va' vl' vd' vs' Y.a Y.l Y.d Y.cs Y.c Y.hub Y.tip W (RF_below ha hb) ta (RF_below hl hb) tl (RF_below hd hb) td (RF_below ha' hb) ta' (RF_below hl' hb) tl' (RF_below hd' hb) td' (RT_below hs hb) (staG_of ts) (RT_below hs' hb) (staG_of ts') (bd_app t1 t1') (rot_of r1) (rot_of r2))
  have H1 := Lib.hid (fun W (hb : Below w.heap.size w W) (r1 : Row W w.heap.size [va, vl, vd, vs, .int .i64 X.c, .float .f32 X.hub, .float .f32 X.tip, .float .f32 X.A0, .float .f32 X.A1, .float .f32 X.A2, .float .f32 X.A3, .float .f32 X.P0, .float .f32 X.P1, .float .f32 X.P2, .float .f32 X.P3, .float .f32 X.P4, .float .f32 X.P5, .float .f32 X.P6, .float .f32 X.P7, .int .i64 X.st, .float .f32 X.sp, .float .f32 X.pi, .float .f32 X.en, vx, vy, .float .f32 X.fr, .float .f32 X.fd, .float .f32 X.fs]) (r2 : Row W (w.heap.size + 1) [va', vl', vd', vs', .int .i64 Y.c, .float .f32 Y.hub, .float .f32 Y.tip, .float .f32 Y.A0, .float .f32 Y.A1, .float .f32 Y.A2, .float .f32 Y.A3, .float .f32 Y.P0, .float .f32 Y.P1, .float .f32 Y.P2, .float .f32 Y.P3, .float .f32 Y.P4, .float .f32 Y.P5, .float .f32 Y.P6, .float .f32 Y.P7, .int .i64 Y.st, .float .f32 Y.sp, .float .f32 Y.pi, .float .f32 Y.en, vx', vy', .float .f32 Y.fr, .float .f32 Y.fd, .float .f32 Y.fs]) => s_l04Same w.heap.size 7 (w.heap.size + 1) 7 X.A0 X.A1 X.A2 X.A3 Y.A0 Y.A1 Y.A2 Y.A3 W (bd_app t2 t2') (air_of r1) (air_of r2))
  have H2 := Lib.hid (fun W (hb : Below w.heap.size w W) (r1 : Row W w.heap.size [va, vl, vd, vs, .int .i64 X.c, .float .f32 X.hub, .float .f32 X.tip, .float .f32 X.A0, .float .f32 X.A1, .float .f32 X.A2, .float .f32 X.A3, .float .f32 X.P0, .float .f32 X.P1, .float .f32 X.P2, .float .f32 X.P3, .float .f32 X.P4, .float .f32 X.P5, .float .f32 X.P6, .float .f32 X.P7, .int .i64 X.st, .float .f32 X.sp, .float .f32 X.pi, .float .f32 X.en, vx, vy, .float .f32 X.fr, .float .f32 X.fd, .float .f32 X.fs]) (r2 : Row W (w.heap.size + 1) [va', vl', vd', vs', .int .i64 Y.c, .float .f32 Y.hub, .float .f32 Y.tip, .float .f32 Y.A0, .float .f32 Y.A1, .float .f32 Y.A2, .float .f32 Y.A3, .float .f32 Y.P0, .float .f32 Y.P1, .float .f32 Y.P2, .float .f32 Y.P3, .float .f32 Y.P4, .float .f32 Y.P5, .float .f32 Y.P6, .float .f32 Y.P7, .int .i64 Y.st, .float .f32 Y.sp, .float .f32 Y.pi, .float .f32 Y.en, vx', vy', .float .f32 Y.fr, .float .f32 Y.fd, .float .f32 Y.fs]) => s_l05Same w.heap.size 11 (w.heap.size + 1) 11 X.P0 X.P1 X.P2 X.P3 X.P4 X.P5 X.P6 X.P7 X.st X.sp X.pi X.en Y.P0 Y.P1 Y.P2 Y.P3 Y.P4 Y.P5 Y.P6 Y.P7 Y.st Y.sp Y.pi Y.en W (bd_app t3 t3') (bd_app t4 t4') (drv_of r1) (drv_of r2))
  have H3 := Lib.hid (fun W (hb : Below w.heap.size w W) (r1 : Row W w.heap.size [va, vl, vd, vs, .int .i64 X.c, .float .f32 X.hub, .float .f32 X.tip, .float .f32 X.A0, .float .f32 X.A1, .float .f32 X.A2, .float .f32 X.A3, .float .f32 X.P0, .float .f32 X.P1, .float .f32 X.P2, .float .f32 X.P3, .float .f32 X.P4, .float .f32 X.P5, .float .f32 X.P6, .float .f32 X.P7, .int .i64 X.st, .float .f32 X.sp, .float .f32 X.pi, .float .f32 X.en, vx, vy, .float .f32 X.fr, .float .f32 X.fd, .float .f32 X.fs]) (r2 : Row W (w.heap.size + 1) [va', vl', vd', vs', .int .i64 Y.c, .float .f32 Y.hub, .float .f32 Y.tip, .float .f32 Y.A0, .float .f32 Y.A1, .float .f32 Y.A2, .float .f32 Y.A3, .float .f32 Y.P0, .float .f32 Y.P1, .float .f32 Y.P2, .float .f32 Y.P3, .float .f32 Y.P4, .float .f32 Y.P5, .float .f32 Y.P6, .float .f32 Y.P7, .int .i64 Y.st, .float .f32 Y.sp, .float .f32 Y.pi, .float .f32 Y.en, vx', vy', .float .f32 Y.fr, .float .f32 Y.fd, .float .f32 Y.fs]) => s_l06Same w.heap.size 23 (w.heap.size + 1) 23 vx vy vx' vy' X.x X.y X.fr X.fd X.fs Y.x Y.y Y.fr Y.fd Y.fs W (RF_below hx hb) tx (RF_below hy hb) ty (RF_below hx' hb) tx' (RF_below hy' hb) ty' (bd_app t5 t5') (farm_of r1) (farm_of r2))
  have hdef : Hid (Dsk.same X Y = (sameRot X.a X.l X.d X.cs X.c X.hub X.tip Y.a Y.l Y.d Y.cs Y.c Y.hub Y.tip && sameAir X.A0 X.A1 X.A2 X.A3 Y.A0 Y.A1 Y.A2 Y.A3 && sameDrv X.P0 X.P1 X.P2 X.P3 X.P4 X.P5 X.P6 X.P7 X.st X.sp X.pi X.en Y.P0 Y.P1 Y.P2 Y.P3 Y.P4 Y.P5 Y.P6 Y.P7 Y.st Y.sp Y.pi Y.en && sameFarm X.x X.y X.fr X.fd X.fs Y.x Y.y Y.fr Y.fd Y.fs)) := rfl
  clear ha ha' hl hl' hd hd' hx hx' hy hy' hs hs' ta tl td ts t1 t2 t3 t4 tx ty t5 ta' tl' td' ts' t1' t2' t3' t4' tx' ty' t5'
  generalize Dsk.same X Y = D at *
  generalize sameRot X.a X.l X.d X.cs X.c X.hub X.tip Y.a Y.l Y.d Y.cs Y.c Y.hub Y.tip = K0 at *
  generalize sameAir X.A0 X.A1 X.A2 X.A3 Y.A0 Y.A1 Y.A2 Y.A3 = K1 at *
  generalize sameDrv X.P0 X.P1 X.P2 X.P3 X.P4 X.P5 X.P6 X.P7 X.st X.sp X.pi X.en Y.P0 Y.P1 Y.P2 Y.P3 Y.P4 Y.P5 Y.P6 Y.P7 Y.st Y.sp Y.pi Y.en = K2 at *
  generalize sameFarm X.x X.y X.fr X.fd X.fs Y.x Y.y Y.fr Y.fd Y.fs = K3 at *
  go_enter Try.func7, Try.ntmps7
  go_wp2_with fail
  obtain ⟨w0, hw0⟩ : ∃ w0, w0 = ((w.alloc (.cells #[va, vl, vd, vs, .int .i64 X.c, .float .f32 X.hub, .float .f32 X.tip, .float .f32 X.A0, .float .f32 X.A1, .float .f32 X.A2, .float .f32 X.A3, .float .f32 X.P0, .float .f32 X.P1, .float .f32 X.P2, .float .f32 X.P3, .float .f32 X.P4, .float .f32 X.P5, .float .f32 X.P6, .float .f32 X.P7, .int .i64 X.st, .float .f32 X.sp, .float .f32 X.pi, .float .f32 X.en, vx, vy, .float .f32 X.fr, .float .f32 X.fd, .float .f32 X.fs] 51)).alloc (.cells #[va', vl', vd', vs', .int .i64 Y.c, .float .f32 Y.hub, .float .f32 Y.tip, .float .f32 Y.A0, .float .f32 Y.A1, .float .f32 Y.A2, .float .f32 Y.A3, .float .f32 Y.P0, .float .f32 Y.P1, .float .f32 Y.P2, .float .f32 Y.P3, .float .f32 Y.P4, .float .f32 Y.P5, .float .f32 Y.P6, .float .f32 Y.P7, .int .i64 Y.st, .float .f32 Y.sp, .float .f32 Y.pi, .float .f32 Y.en, vx', vy', .float .f32 Y.fr, .float .f32 Y.fd, .float .f32 Y.fs] 51)) := ⟨_, rfl⟩
  have HB : Hid (Below w.heap.size w w0) := by rw [hw0]; exact (by repeat (first | exact Below.refl _ _ | assumption | refine below_drewN ?_ _ | refine below_alloc (Nat.le_refl _) ?_ _ | (refine Below.setCell ?_ (by first | exact Nat.le_refl _ | (simp; done) | (simp; omega) | omega) _) | (refine below_step (Nat.le_refl _) ?_ (by assumption))))
  have R1 : Hid (Row w0 w.heap.size [va, vl, vd, vs, .int .i64 X.c, .float .f32 X.hub, .float .f32 X.tip, .float .f32 X.A0, .float .f32 X.A1, .float .f32 X.A2, .float .f32 X.A3, .float .f32 X.P0, .float .f32 X.P1, .float .f32 X.P2, .float .f32 X.P3, .float .f32 X.P4, .float .f32 X.P5, .float .f32 X.P6, .float .f32 X.P7, .int .i64 X.st, .float .f32 X.sp, .float .f32 X.pi, .float .f32 X.en, vx, vy, .float .f32 X.fr, .float .f32 X.fd, .float .f32 X.fs]) := by rw [hw0]; exact (row_top w _ rfl #[va, vl, vd, vs, .int .i64 X.c, .float .f32 X.hub, .float .f32 X.tip, .float .f32 X.A0, .float .f32 X.A1, .float .f32 X.A2, .float .f32 X.A3, .float .f32 X.P0, .float .f32 X.P1, .float .f32 X.P2, .float .f32 X.P3, .float .f32 X.P4, .float .f32 X.P5, .float .f32 X.P6, .float .f32 X.P7, .int .i64 X.st, .float .f32 X.sp, .float .f32 X.pi, .float .f32 X.en, vx, vy, .float .f32 X.fr, .float .f32 X.fd, .float .f32 X.fs] 51).below (below_alloc (Nat.le_refl _) (Below.refl _ _) _)
  have R2 : Hid (Row w0 (w.heap.size + 1) [va', vl', vd', vs', .int .i64 Y.c, .float .f32 Y.hub, .float .f32 Y.tip, .float .f32 Y.A0, .float .f32 Y.A1, .float .f32 Y.A2, .float .f32 Y.A3, .float .f32 Y.P0, .float .f32 Y.P1, .float .f32 Y.P2, .float .f32 Y.P3, .float .f32 Y.P4, .float .f32 Y.P5, .float .f32 Y.P6, .float .f32 Y.P7, .int .i64 Y.st, .float .f32 Y.sp, .float .f32 Y.pi, .float .f32 Y.en, vx', vy', .float .f32 Y.fr, .float .f32 Y.fd, .float .f32 Y.fs]) := by rw [hw0]; exact row_top _ _ (by simp) #[va', vl', vd', vs', .int .i64 Y.c, .float .f32 Y.hub, .float .f32 Y.tip, .float .f32 Y.A0, .float .f32 Y.A1, .float .f32 Y.A2, .float .f32 Y.A3, .float .f32 Y.P0, .float .f32 Y.P1, .float .f32 Y.P2, .float .f32 Y.P3, .float .f32 Y.P4, .float .f32 Y.P5, .float .f32 Y.P6, .float .f32 Y.P7, .int .i64 Y.st, .float .f32 Y.sp, .float .f32 Y.pi, .float .f32 Y.en, vx', vy', .float .f32 Y.fr, .float .f32 Y.fd, .float .f32 Y.fs] 51
  rw [← hw0]
  clear hw0
  refine (H0.out _ HB.out R1.out R2.out).mono ?_
  rintro e' w1 ⟨rfl, hb⟩
  replace HB := Lib.hid (below_step (Nat.le_refl _) HB.out hb)
  replace R1 := Lib.hid (R1.out.below hb)
  replace R2 := Lib.hid (R2.out.below hb)
  clear hb H0
  cases K0
  · have e0 : Hid (D = false) := by show _ = _; rw [hdef.out]; simp only [Bool.false_and, Bool.and_false, Bool.and_true, Bool.true_and]
    go_wp2
    go_ret
    exact ⟨by rw [e0.out]; rfl, HB.out⟩
  go_wp2_with fail
  skip
  refine (H1.out _ HB.out R1.out R2.out).mono ?_
  rintro e' w2 ⟨rfl, hb⟩
  replace HB := Lib.hid (below_step (Nat.le_refl _) HB.out hb)
  replace R1 := Lib.hid (R1.out.below hb)
  replace R2 := Lib.hid (R2.out.below hb)
  clear hb H1
  cases K1
  · have e0 : Hid (D = false) := by show _ = _; rw [hdef.out]; simp only [Bool.false_and, Bool.and_false, Bool.and_true, Bool.true_and]
    go_wp2
    go_ret
    exact ⟨by rw [e0.out]; rfl, HB.out⟩
  go_wp2_with fail
  skip
  refine (H2.out _ HB.out R1.out R2.out).mono ?_
  rintro e' w3 ⟨rfl, hb⟩
  replace HB := Lib.hid (below_step (Nat.le_refl _) HB.out hb)
  replace R1 := Lib.hid (R1.out.below hb)
  replace R2 := Lib.hid (R2.out.below hb)
  clear hb H2
  cases K2
  · have e0 : Hid (D = false) := by show _ = _; rw [hdef.out]; simp only [Bool.false_and, Bool.and_false, Bool.and_true, Bool.true_and]
    go_wp2
    go_ret
    exact ⟨by rw [e0.out]; rfl, HB.out⟩
  go_wp2_with fail
  skip
  refine (H3.out _ HB.out R1.out R2.out).mono ?_
  rintro e' w4 ⟨rfl, hb⟩
  replace HB := Lib.hid (below_step (Nat.le_refl _) HB.out hb)
  replace R1 := Lib.hid (R1.out.below hb)
  replace R2 := Lib.hid (R2.out.below hb)
  clear hb H3
  cases K3
  · have e0 : Hid (D = false) := by show _ = _; rw [hdef.out]; simp only [Bool.false_and, Bool.and_false, Bool.and_true, Bool.true_and]
    go_wp2
    go_ret
    exact ⟨by rw [e0.out]; rfl, HB.out⟩
  have e0 : Hid (D = true) := by show _ = _; rw [hdef.out]; rfl
  go_wp2
  go_ret
  exact ⟨by rw [e0.out]; rfl, HB.out⟩
theorem D_iSame (D E : Dsk) (cs es : List Value) (w : World) (h : DV w D cs) (k : DV w E es) (bD : D.BD) (bE : E.BD) : Calls Try.prog 9 #[.agg cs.toArray, .agg es.toArray] w fun e w' => e = .returned (.bool (Dsk.same D E)) ∧ Below w.heap.size w w' := by
  obtain ⟨va, vl, vd, vs, vx, vy, rfl, k1, k2, k3, k4, k5, k6⟩ := h
  obtain ⟨ua, ul, ud, us, ux, uy, rfl, r1, r2, r3, r4, r5, r6⟩ := k
  exact i_SameDesk' D E va vl vd vs vx vy ua ul ud us ux uy w k1 r1 k2 r2 k3 r3 k5 r5 k6 r6 k4 r4 bD bE
theorem D_sSame (D E : Dsk) (cs es : List Value) (w : World) (h : DV w D cs) (k : DV w E es) (bD : D.BD) (bE : E.BD) : Calls Try.prog 7 #[.agg cs.toArray, .agg es.toArray] w fun e w' => e = .returned (.bool (Dsk.same D E)) ∧ Below w.heap.size w w' := by
  obtain ⟨va, vl, vd, vs, vx, vy, rfl, k1, k2, k3, k4, k5, k6⟩ := h
  obtain ⟨ua, ul, ud, us, ux, uy, rfl, r1, r2, r3, r4, r5, r6⟩ := k
  exact s_SameDesk' D E va vl vd vs vx vy ua ul ud us ux uy w k1 r1 k2 r2 k3 r3 k5 r5 k6 r6 k4 r4 bD bE
end Go.Proofs.Ytglfjanclopipaa
