/- Walks: the law's comparison of desks, and their size. -/
import Derived.Test.YtglfjanclopipaaDC
namespace Go.Proofs.Ytglfjanclopipaa
set_option linter.unusedSimpArgs false
set_option linter.unusedVariables false
open Go.RowKit Go.Fl Go.Lib

set_option maxHeartbeats 1000000 in
theorem l_eqAir (a b c d : Nat) (w : World) : Calls Try.prog 32 #[air a b c d, air a b c d] w fun e w' => e = .returned (.bool true) ∧ Below w.heap.size w w' := by
  have H1' := hrfl (cn .f32 a)
  have H2' := hrfl (cn .f32 b)
  have H3' := hrfl (cn .f32 c)
  have H4' := hrfl (cn .f32 d)
  go_enter Try.func32, Try.ntmps32
  go_wp2_with (first | (refine wpList_widen (dst := 114) rfl rfl rfl (by kernel_rfl) (by exact Try.underlying114) (by first | assumption | exact hrfl _) ?_; intro r n hr) | (go_at_call 71; refine (l_sameFloat _ _ (Eq.trans (Hid.out (by assumption)) (Eq.symm (Hid.out (by assumption)))) _).mono ?_; rintro e w' ⟨rfl, n, rfl⟩))
  go_ret
  exact ⟨rfl, (by repeat (first | exact Below.refl _ _ | assumption | refine below_drewN ?_ _ | refine below_alloc (Nat.le_refl _) ?_ _ | (refine Below.setCell ?_ (by first | exact Nat.le_refl _ | (simp; done) | (simp; omega) | omega) _) | (refine below_step (Nat.le_refl _) ?_ (by assumption))))⟩
set_option maxHeartbeats 2000000 in
theorem l_eqPlant (i d r l m s c e : Nat) (w : World) : Calls Try.prog 72 #[plantV i d r l m s c e, plantV i d r l m s c e] w fun e' w' => e' = .returned (.bool true) ∧ Below w.heap.size w w' := by
  have H1' := hrfl (cn .f32 i)
  have H2' := hrfl (cn .f32 d)
  have H3' := hrfl (cn .f32 r)
  have H4' := hrfl (cn .f32 l)
  have H5' := hrfl (cn .f32 m)
  have H6' := hrfl (cn .f32 s)
  have H7' := hrfl (cn .f32 c)
  have H8' := hrfl (cn .f32 e)
  go_enter Try.func72, Try.ntmps72
  go_wp2_with (first | (refine wpList_widen (dst := 114) rfl rfl rfl (by kernel_rfl) (by exact Try.underlying114) (by first | assumption | exact hrfl _) ?_; intro r n hr) | (go_at_call 71; refine (l_sameFloat _ _ (Eq.trans (Hid.out (by assumption)) (Eq.symm (Hid.out (by assumption)))) _).mono ?_; rintro e w' ⟨rfl, n, rfl⟩))
  go_ret
  exact ⟨rfl, (by repeat (first | exact Below.refl _ _ | assumption | refine below_drewN ?_ _ | refine below_alloc (Nat.le_refl _) ?_ _ | (refine Below.setCell ?_ (by first | exact Nat.le_refl _ | (simp; done) | (simp; omega) | omega) _) | (refine below_step (Nat.le_refl _) ?_ (by assumption))))⟩
set_option maxHeartbeats 2000000 in
theorem l_eqDrive (i d r l m s c e : Nat) (st : Int) (sp pi en : Nat) (w : World) : Calls Try.prog 33 #[drvV i d r l m s c e st sp pi en, drvV i d r l m s c e st sp pi en] w fun e' w' => e' = .returned (.bool true) ∧ Below w.heap.size w w' := by
  have H := Lib.hid (fun W => l_eqPlant i d r l m s c e W)
  go_enter Try.func33, Try.ntmps33
  go_wp2_with fail
  have B0 : Hid (Below w.heap.size w ((w.alloc (.cells #[.float .f32 i, .float .f32 d, .float .f32 r, .float .f32 l, .float .f32 m, .float .f32 s, .float .f32 c, .float .f32 e, .int .i64 st, .float .f32 sp, .float .f32 pi, .float .f32 en] 48)).alloc (.cells #[.float .f32 i, .float .f32 d, .float .f32 r, .float .f32 l, .float .f32 m, .float .f32 s, .float .f32 c, .float .f32 e, .int .i64 st, .float .f32 sp, .float .f32 pi, .float .f32 en] 48))) := below_alloc (Nat.le_refl _) (below_alloc (Nat.le_refl _) (Below.refl _ _) _) _
  have P := (drv_top w _ rfl i d r l m s c e st sp pi en 48).below (below_alloc (Nat.le_refl _) (Below.refl _ _) (.cells #[.float .f32 i, .float .f32 d, .float .f32 r, .float .f32 l, .float .f32 m, .float .f32 s, .float .f32 c, .float .f32 e, .int .i64 st, .float .f32 sp, .float .f32 pi, .float .f32 en] 48))
  have Q := drv_top (w.alloc (.cells #[.float .f32 i, .float .f32 d, .float .f32 r, .float .f32 l, .float .f32 m, .float .f32 s, .float .f32 c, .float .f32 e, .int .i64 st, .float .f32 sp, .float .f32 pi, .float .f32 en] 48)) (w.heap.size + 1) (by simp) i d r l m s c e st sp pi en 48
  refine (H.out _).mono ?_
  rintro e' w1 ⟨rfl, hb⟩
  obtain ⟨-, b0, b1, b2, b3⟩ := P.below hb
  obtain ⟨-, c0, c1, c2, c3⟩ := Q.below hb
  have B1 := Lib.hid (below_step (Nat.le_refl _) B0.out hb)
  clear P Q hb B0
  have H1' := hrfl (cn .f32 sp)
  have H2' := hrfl (cn .f32 pi)
  have H3' := hrfl (cn .f32 en)
  go_wp2_with (first | (refine wpList_widen (dst := 114) rfl rfl rfl (by kernel_rfl) (by exact Try.underlying114) (by first | assumption | exact hrfl _) ?_; intro r n hr) | (go_at_call 71; refine (l_sameFloat _ _ (Eq.trans (Hid.out (by assumption)) (Eq.symm (Hid.out (by assumption)))) _).mono ?_; rintro e w' ⟨rfl, n, rfl⟩))
  go_ret
  refine ⟨rfl, ?_⟩
  repeat (first | with_reducible exact B1.out | refine below_drewN ?_ _)
set_option maxRecDepth 100000 in
set_option maxHeartbeats 4000000 in
theorem l_eqDesk (va vl vd vs ua ul ud us : Value) (a l d : List Nat) (cs : List Sta) (c : Int) (hub tip : Nat) (A0 A1 A2 A3 P0 P1 P2 P3 P4 P5 P6 P7 : Nat) (st : Int) (sp pi en : Nat) (vx vy ux uy : Value) (x y : List Nat) (fr fd fs : Nat) (w : World) (ha : RF w va a) (hl : RF w vl l) (hd : RF w vd d) (hs : RT w vs cs) (hx : RF w vx x) (hy : RF w vy y) (ka : RF w ua a) (kl : RF w ul l) (kd : RF w ud d) (ks : RT w us cs) (kx : RF w ux x) (ky : RF w uy y) :
    Calls Try.prog 10 #[deskV va vl vd vs c hub tip A0 A1 A2 A3 P0 P1 P2 P3 P4 P5 P6 P7 st sp pi en vx vy fr fd fs, deskV ua ul ud us c hub tip A0 A1 A2 A3 P0 P1 P2 P3 P4 P5 P6 P7 st sp pi en ux uy fr fd fs] w fun e' w' => e' = .returned (.bool true) ∧ Below w.heap.size w w' := by
  have H1 := Lib.hid (fun W (hb : Below w.heap.size w W) => l_eqRotor va vl vd vs ua ul ud us a l d cs c hub tip W (RF_below ha hb) (RF_below hl hb) (RF_below hd hb) (RT_below hs hb) (RF_below ka hb) (RF_below kl hb) (RF_below kd hb) (RT_below ks hb))
  have H2 := Lib.hid (fun W => l_eqAir A0 A1 A2 A3 W)
  have H3 := Lib.hid (fun W => l_eqDrive P0 P1 P2 P3 P4 P5 P6 P7 st sp pi en W)
  have H4 := Lib.hid (fun W (hb : Below w.heap.size w W) => l_eqFarm vx vy ux uy x y fr fd fs W (RF_below hx hb) (RF_below hy hb) (RF_below kx hb) (RF_below ky hb))
  clear ha hl hd hs hx hy ka kl kd ks kx ky
  go_enter Try.func10, Try.ntmps10
  go_wp2_with fail
  have HB : Hid (Below w.heap.size w ((w.alloc (.cells #[va, vl, vd, vs, .int .i64 c, .float .f32 hub, .float .f32 tip, .float .f32 A0, .float .f32 A1, .float .f32 A2, .float .f32 A3, .float .f32 P0, .float .f32 P1, .float .f32 P2, .float .f32 P3, .float .f32 P4, .float .f32 P5, .float .f32 P6, .float .f32 P7, .int .i64 st, .float .f32 sp, .float .f32 pi, .float .f32 en, vx, vy, .float .f32 fr, .float .f32 fd, .float .f32 fs] 51)).alloc (.cells #[ua, ul, ud, us, .int .i64 c, .float .f32 hub, .float .f32 tip, .float .f32 A0, .float .f32 A1, .float .f32 A2, .float .f32 A3, .float .f32 P0, .float .f32 P1, .float .f32 P2, .float .f32 P3, .float .f32 P4, .float .f32 P5, .float .f32 P6, .float .f32 P7, .int .i64 st, .float .f32 sp, .float .f32 pi, .float .f32 en, ux, uy, .float .f32 fr, .float .f32 fd, .float .f32 fs] 51))) := below_alloc (Nat.le_refl _) (below_alloc (Nat.le_refl _) (Below.refl _ _) _) _
  have HP := Lib.hid ((desk_top w _ rfl va vl vd vs c hub tip A0 A1 A2 A3 P0 P1 P2 P3 P4 P5 P6 P7 st sp pi en vx vy fr fd fs 51).below (below_alloc (Nat.le_refl _) (Below.refl _ _) (.cells #[ua, ul, ud, us, .int .i64 c, .float .f32 hub, .float .f32 tip, .float .f32 A0, .float .f32 A1, .float .f32 A2, .float .f32 A3, .float .f32 P0, .float .f32 P1, .float .f32 P2, .float .f32 P3, .float .f32 P4, .float .f32 P5, .float .f32 P6, .float .f32 P7, .int .i64 st, .float .f32 sp, .float .f32 pi, .float .f32 en, ux, uy, .float .f32 fr, .float .f32 fd, .float .f32 fs] 51)))
  have HQ := Lib.hid (desk_top (w.alloc (.cells #[va, vl, vd, vs, .int .i64 c, .float .f32 hub, .float .f32 tip, .float .f32 A0, .float .f32 A1, .float .f32 A2, .float .f32 A3, .float .f32 P0, .float .f32 P1, .float .f32 P2, .float .f32 P3, .float .f32 P4, .float .f32 P5, .float .f32 P6, .float .f32 P7, .int .i64 st, .float .f32 sp, .float .f32 pi, .float .f32 en, vx, vy, .float .f32 fr, .float .f32 fd, .float .f32 fs] 51)) (w.heap.size + 1) (by simp) ua ul ud us c hub tip A0 A1 A2 A3 P0 P1 P2 P3 P4 P5 P6 P7 st sp pi en ux uy fr fd fs 51)
  refine (H1.out _ HB.out).mono ?_
  rintro e' w1 ⟨rfl, hb⟩
  replace HP := Lib.hid (HP.out.below hb)
  replace HQ := Lib.hid (HQ.out.below hb)
  replace HB := Lib.hid (below_step (Nat.le_refl _) HB.out hb)
  clear hb H1
  obtain ⟨-, ⟨b0, b1, b2, b3⟩, -, -⟩ := HP.out
  obtain ⟨-, ⟨c0, c1, c2, c3⟩, -, -⟩ := HQ.out
  simp only [Nat.reduceAdd] at b0 b1 b2 b3 c0 c1 c2 c3
  go_wp2_with fail
  refine (H2.out _).mono ?_
  rintro e' w2 ⟨rfl, hb⟩
  replace HP := Lib.hid (HP.out.below hb)
  replace HQ := Lib.hid (HQ.out.below hb)
  replace HB := Lib.hid (below_step (Nat.le_refl _) HB.out hb)
  clear hb H2 b0 b1 b2 b3 c0 c1 c2 c3
  obtain ⟨-, -, ⟨⟨b0, b1, b2, b3, b4, b5, b6, b7⟩, b8, b9, b10, b11⟩, -⟩ := HP.out
  obtain ⟨-, -, ⟨⟨c0, c1, c2, c3, c4, c5, c6, c7⟩, c8, c9, c10, c11⟩, -⟩ := HQ.out
  simp only [Nat.reduceAdd] at b0 b1 b2 b3 b4 b5 b6 b7 b8 b9 b10 b11 c0 c1 c2 c3 c4 c5 c6 c7 c8 c9 c10 c11
  go_wp2_with fail
  refine (H3.out _).mono ?_
  rintro e' w3 ⟨rfl, hb⟩
  replace HP := Lib.hid (HP.out.below hb)
  replace HQ := Lib.hid (HQ.out.below hb)
  replace HB := Lib.hid (below_step (Nat.le_refl _) HB.out hb)
  clear hb H3 b0 b1 b2 b3 b4 b5 b6 b7 b8 b9 b10 b11 c0 c1 c2 c3 c4 c5 c6 c7 c8 c9 c10 c11
  obtain ⟨-, -, -, ⟨b0, b1, b2, b3, b4⟩⟩ := HP.out
  obtain ⟨-, -, -, ⟨c0, c1, c2, c3, c4⟩⟩ := HQ.out
  simp only [Nat.reduceAdd] at b0 b1 b2 b3 b4 c0 c1 c2 c3 c4
  go_wp2_with fail
  refine (H4.out _ HB.out).mono ?_
  rintro e' w4 ⟨rfl, hb⟩
  replace HB := Lib.hid (below_step (Nat.le_refl _) HB.out hb)
  clear hb H4 b0 b1 b2 b3 b4 c0 c1 c2 c3 c4
  go_wp2
  go_ret
  exact ⟨rfl, HB.out⟩
set_option maxRecDepth 100000 in
set_option maxHeartbeats 1000000 in
theorem l_szDesk (va vl vd vs : Value) (na nl nd ns : Nat) (c : Int) (hub tip : Nat) (A0 A1 A2 A3 P0 P1 P2 P3 P4 P5 P6 P7 : Nat) (st : Int) (sp pi en : Nat) (vx vy : Value) (nx ny : Nat) (fr fd fs : Nat) (w : World) (left : Int) (h0 : 0 ≤ left) (h1 : left ≤ 1048576) (ha : RFn va na) (hl : RFn vl nl) (hd : RFn vd nd) (hs : RFn vs ns) (hx : RFn vx nx) (hy : RFn vy ny) :
    Calls Try.prog 6 #[deskV va vl vd vs c hub tip A0 A1 A2 A3 P0 P1 P2 P3 P4 P5 P6 P7 st sp pi en vx vy fr fd fs, .int .i64 left] w fun e w' => (∃ r : Int, e = .returned (.int .i64 r) ∧ r ≤ left ∧ (0 ≤ r → r = left - (na + nl + nd + ns + (nx + ny)))) ∧ Below w.heap.size w w' := by
  have HZ := Lib.hid (fun W => l_szRotor va vl vd vs na nl nd ns c hub tip W left h0 h1 ha hl hd hs)
  have HF := Lib.hid (fun left h0 h1 W => l_szFarm vx vy nx ny fr fd fs W left h0 h1 hx hy)
  go_enter Try.func6, Try.ntmps6
  go_wp2_with fail
  refine (HZ.out _).mono ?_
  rintro e w1 ⟨⟨r, rfl, hr⟩, hb⟩
  have HB := Lib.hid (below_step (Nat.le_refl _) (below_alloc (Nat.le_refl _) (Below.refl _ _) _) hb)
  obtain ⟨-, -, -, ⟨b0, b1, b2, b3, b4⟩⟩ := (desk_top w _ rfl va vl vd vs c hub tip A0 A1 A2 A3 P0 P1 P2 P3 P4 P5 P6 P7 st sp pi en vx vy fr fd fs 38).below hb
  simp only [Nat.reduceAdd] at b0 b1 b2 b3 b4
  have HR := Lib.hid hr
  have L0 := Lib.hid h0
  clear hb hr h0
  by_cases q1 : r < 0
  · have L1 := L0.out
    go_wp2
    go_ret
    exact ⟨⟨_, rfl, by omega, fun h => absurd h (by decide)⟩, HB.out⟩
  have hr2 := HR.out (by omega)
  have HS3 := Lib.hid (HF.out r (by omega) (by omega))
  have HR2 := Lib.hid hr2
  clear HF HZ hr2
  go_wp2_with fail
  refine (HS3.out _).mono ?_
  rintro e w2 ⟨⟨r2, rfl, hr3⟩, hb⟩
  have HR3 := Lib.hid hr3
  replace HB := Lib.hid (below_step (Nat.le_refl _) HB.out hb)
  clear hb hr3
  by_cases q2 : r2 < 0
  · go_wp2
    go_ret
    exact ⟨⟨_, rfl, by have := L0.out; omega, fun h => absurd h (by decide)⟩, HB.out⟩
  go_wp2
  go_ret
  have e1 := HR2.out
  have e2 := HR3.out (by omega)
  exact ⟨⟨_, rfl, by omega, fun _ => by omega⟩, HB.out⟩
end Go.Proofs.Ytglfjanclopipaa
