/- Walks: the text of a farm, both. -/
import Derived.Test.YtglfjanclopipaaKH
namespace Go.Proofs.Ytglfjanclopipaa
set_option linter.unusedSimpArgs false
set_option linter.unusedVariables false
open Go.RowKit Go.Fl Go.Lib

set_option maxHeartbeats 1000000 in
theorem l_szFarm (vx vy : Value) (nx ny r d s : Nat) (w : World) (left : Int) (h0 : 0 ≤ left) (h1 : left ≤ 1048576) (hx : RFn vx nx) (hy : RFn vy ny) :
    Calls Try.prog 18 #[farmV vx vy r d s, .int .i64 left] w fun e w' => (∃ r : Int, e = .returned (.int .i64 r) ∧ (0 ≤ r → r = left - (nx + ny))) ∧ Below w.heap.size w w' := by
  obtain ⟨pa, ca, rfl, ma⟩ := hx
  obtain ⟨pl, cl, rfl, ml⟩ := hy
  have HN := Lib.hid (fun p (n cap : Nat) left h0 h1 hn W (h : left - (n : Int) < 0) => by have := l_szFK p n cap left h0 h1 hn W; rw [if_pos h] at this; exact this)
  have HP := Lib.hid (fun p (n cap : Nat) left h0 h1 hn W (h : ¬ left - (n : Int) < 0) => by have := l_szFK p n cap left h0 h1 hn W; rw [if_neg h] at this; exact this)
  by_cases q1 : left - nx < 0
  · go_enter Try.func18, Try.ntmps18
    go_wp2_with fail
    refine (HN.out pa _ _ _ h0 h1 ma _ (by omega)).mono ?_
    rintro e w1 ⟨rfl, n1, rfl⟩
    go_wp2
    go_ret
    exact ⟨⟨_, rfl, fun h => absurd h (by decide)⟩, (by repeat (first | exact Below.refl _ _ | assumption | refine below_drewN ?_ _ | refine below_alloc (Nat.le_refl _) ?_ _ | (refine Below.setCell ?_ (by first | exact Nat.le_refl _ | (simp; done) | (simp; omega) | omega) _) | (refine below_step (Nat.le_refl _) ?_ (by assumption))))⟩
  by_cases q2 : left - nx - ny < 0
  · go_enter Try.func18, Try.ntmps18
    go_wp2_with fail
    refine (HP.out pa _ _ _ h0 h1 ma _ (by omega)).mono ?_
    rintro e w1 ⟨rfl, n1, rfl⟩
    go_wp2_with fail
    refine (HN.out pl _ _ (left - nx) (by omega) (by omega) ml _ (by omega)).mono ?_
    rintro e w2 ⟨rfl, n2, rfl⟩
    go_wp2
    go_ret
    exact ⟨⟨_, rfl, fun h => absurd h (by decide)⟩, (by repeat (first | exact Below.refl _ _ | assumption | refine below_drewN ?_ _ | refine below_alloc (Nat.le_refl _) ?_ _ | (refine Below.setCell ?_ (by first | exact Nat.le_refl _ | (simp; done) | (simp; omega) | omega) _) | (refine below_step (Nat.le_refl _) ?_ (by assumption))))⟩
  go_enter Try.func18, Try.ntmps18
  go_wp2_with fail
  refine (HP.out pa _ _ _ h0 h1 ma _ (by omega)).mono ?_
  rintro e w1 ⟨rfl, n1, rfl⟩
  go_wp2_with fail
  refine (HP.out pl _ _ (left - nx) (by omega) (by omega) ml _ (by omega)).mono ?_
  rintro e w2 ⟨rfl, n2, rfl⟩
  go_wp2
  go_ret
  exact ⟨⟨_, rfl, fun _ => by omega⟩, (by repeat (first | exact Below.refl _ _ | assumption | refine below_drewN ?_ _ | refine below_alloc (Nat.le_refl _) ?_ _ | (refine Below.setCell ?_ (by first | exact Nat.le_refl _ | (simp; done) | (simp; omega) | omega) _) | (refine below_step (Nat.le_refl _) ?_ (by assumption))))⟩
set_option maxHeartbeats 1000000 in
theorem l_eqFarm (vx vy ux uy : Value) (x y : List Nat) (r d s : Nat) (w : World) (hx : RF w vx x) (hy : RF w vy y) (kx : RF w ux x) (ky : RF w uy y) : Calls Try.prog 34 #[farmV vx vy r d s, farmV ux uy r d s] w fun e' w' => e' = .returned (.bool true) ∧ Below w.heap.size w w' := by
  have H1 := Lib.hid (fun W (hb : Below w.heap.size w W) => l_eqFloat32S vx ux x x W (RF_below hx hb) (RF_below kx hb) (FEq.refl _))
  have H2 := Lib.hid (fun W (hb : Below w.heap.size w W) => l_eqFloat32S vy uy y y W (RF_below hy hb) (RF_below ky hb) (FEq.refl _))
  go_enter Try.func34, Try.ntmps34
  go_wp2_with fail
  refine (H1.out _ (by repeat (first | exact Below.refl _ _ | assumption | refine below_drewN ?_ _ | refine below_alloc (Nat.le_refl _) ?_ _ | (refine Below.setCell ?_ (by first | exact Nat.le_refl _ | (simp; done) | (simp; omega) | omega) _) | (refine below_step (Nat.le_refl _) ?_ (by assumption))))).mono ?_
  rintro e w1 ⟨rfl, n1, rfl⟩
  go_wp2_with fail
  refine (H2.out _ (by repeat (first | exact Below.refl _ _ | assumption | refine below_drewN ?_ _ | refine below_alloc (Nat.le_refl _) ?_ _ | (refine Below.setCell ?_ (by first | exact Nat.le_refl _ | (simp; done) | (simp; omega) | omega) _) | (refine below_step (Nat.le_refl _) ?_ (by assumption))))).mono ?_
  rintro e w1 ⟨rfl, n2, rfl⟩
  go_wp2_with (first | (refine wpList_widen (dst := 114) rfl rfl rfl (by kernel_rfl) (by exact Try.underlying114) (by first | assumption | exact hrfl _) ?_; intro r n hr) | (go_at_call 71; refine (l_sameFloat _ _ (Eq.trans (Hid.out (by assumption)) (Eq.symm (Hid.out (by assumption)))) _).mono ?_; rintro e w' ⟨rfl, n, rfl⟩))
  go_ret
  exact ⟨rfl, (by repeat (first | exact Below.refl _ _ | assumption | refine below_drewN ?_ _ | refine below_alloc (Nat.le_refl _) ?_ _ | (refine Below.setCell ?_ (by first | exact Nat.le_refl _ | (simp; done) | (simp; omega) | omega) _) | (refine below_step (Nat.le_refl _) ?_ (by assumption))))⟩
theorem FarmAt.other {w : World} {g k i : Nat} {vx vy v : Value} {r d s : Nat} (h : FarmAt w g vx vy r d s) (hk : g ≠ k) : FarmAt (w.setCell ⟨k, i, none⟩ v) g vx vy r d s := by
  obtain ⟨h0, h1, h2, h3, h4⟩ := h
  exact ⟨(World.cell?_setCell_other _ _ _ _ (ne_addr hk)).trans h0, (World.cell?_setCell_other _ _ _ _ (ne_addr hk)).trans h1, (World.cell?_setCell_other _ _ _ _ (ne_addr hk)).trans h2, (World.cell?_setCell_other _ _ _ _ (ne_addr hk)).trans h3, (World.cell?_setCell_other _ _ _ _ (ne_addr hk)).trans h4⟩
theorem FarmAt.set0 {w : World} {k : Nat} {vx vy v : Value} {r d s : Nat} (h : FarmAt w k vx vy r d s) : FarmAt (w.setCell ⟨k, 0, none⟩ v) k v vy r d s := by
  obtain ⟨h0, h1, h2, h3, h4⟩ := h
  exact ⟨World.cell?_setCell_same _ _ _ h0, (World.cell?_setCell_other _ _ _ _ (off_ne (by decide))).trans h1, (World.cell?_setCell_other _ _ _ _ (off_ne (by decide))).trans h2, (World.cell?_setCell_other _ _ _ _ (off_ne (by decide))).trans h3, (World.cell?_setCell_other _ _ _ _ (off_ne (by decide))).trans h4⟩
theorem FarmAt.set1 {w : World} {k : Nat} {vx vy v : Value} {r d s : Nat} (h : FarmAt w k vx vy r d s) : FarmAt (w.setCell ⟨k, 1, none⟩ v) k vx v r d s := by
  obtain ⟨h0, h1, h2, h3, h4⟩ := h
  exact ⟨(World.cell?_setCell_other _ _ _ _ (off_ne (by decide))).trans h0, World.cell?_setCell_same _ _ _ h1, (World.cell?_setCell_other _ _ _ _ (off_ne (by decide))).trans h2, (World.cell?_setCell_other _ _ _ _ (off_ne (by decide))).trans h3, (World.cell?_setCell_other _ _ _ _ (off_ne (by decide))).trans h4⟩
set_option maxRecDepth 100000 in
set_option maxHeartbeats 2000000 in
theorem l_toFarmO (vx vy : Value) (x y : List Nat) (r d s : Nat) (w : World) (hx : RF w vx x) (hy : RF w vy y) (lx : x.length ≤ 1048576) (ly : y.length ≤ 1048576) :
    Calls Try.prog 26 #[farmV vx vy r d s] w fun e' w' => ∃ ux uy, e' = .returned (farmV ux uy r d s) ∧ OF w.heap.size w' ux x ∧ OF w.heap.size w' uy y ∧ Below w.heap.size w w' := by
  have H1 := Lib.hid (fun W (hb : Below w.heap.size w W) => l_toFloat32S vx x W (RF_below hx hb) lx)
  have H2 := Lib.hid (fun W (hb : Below w.heap.size w W) => l_toFloat32S vy y W (RF_below hy hb) ly)
  have L1 := Lib.hid lx
  have L2 := Lib.hid ly
  clear hx hy lx ly
  go_enter Try.func26, Try.ntmps26
  go_wp2_with fail
  obtain ⟨w0, hw0⟩ : ∃ w0, w0 = ((w.alloc (.cells #[vx, vy, .float .f32 r, .float .f32 d, .float .f32 s] 36)).alloc (.cells #[.slice none 0 0, .slice none 0 0, .float .f32 0, .float .f32 0, .float .f32 0] 49)).alloc (.cells #[.slice none 0 0, .slice none 0 0, .float .f32 0, .float .f32 0, .float .f32 0] 49) := ⟨_, rfl⟩
  rw [← hw0]
  have B0 : Below w.heap.size w w0 := by rw [hw0]; exact (by repeat (first | exact Below.refl _ _ | assumption | refine below_drewN ?_ _ | refine below_alloc (Nat.le_refl _) ?_ _ | (refine Below.setCell ?_ (by first | exact Nat.le_refl _ | (simp; done) | (simp; omega) | omega) _) | (refine below_step (Nat.le_refl _) ?_ (by assumption))))
  have P0 : FarmAt w0 w.heap.size vx vy r d s := by rw [hw0]; exact (farm_top w _ rfl vx vy r d s _).below (below_alloc (Nat.le_refl _) (below_alloc (Nat.le_refl _) (Below.refl _ _) _) _)
  have Q0 : FarmAt w0 (w.heap.size + 1) (.slice none 0 0) (.slice none 0 0) 0 0 0 := by rw [hw0]; exact (farm_top (w.alloc (.cells #[vx, vy, .float .f32 r, .float .f32 d, .float .f32 s] 36)) _ (by simp) _ _ _ _ _ 49).below (below_alloc (Nat.le_refl _) (Below.refl _ _) _)
  have S0 : Soft w0 (w.heap.size + 1) := by rw [hw0]; exact (soft_top (w.alloc (.cells #[vx, vy, .float .f32 r, .float .f32 d, .float .f32 s] 36)) _ (by simp) _ _).below (below_alloc (Nat.le_refl _) (Below.refl _ _) _) (by simp)
  have R0 : FarmAt w0 (w.heap.size + 1 + 1) (.slice none 0 0) (.slice none 0 0) 0 0 0 := by rw [hw0]; exact farm_top _ _ (by simp) _ _ _ _ _ _
  have T0 : Soft w0 (w.heap.size + 1 + 1) := by rw [hw0]; exact soft_top _ _ (by simp) _ _
  have N0 : w.heap.size + 3 = w0.heap.size := by rw [hw0]; simp
  clear hw0
  refine (H1.out _ B0).mono ?_
  rintro e' w1 ⟨ua, rfl, O1, hb⟩
  replace B0 := below_step (Nat.le_refl _) B0 hb
  replace P0 := P0.below hb
  replace Q0 := Q0.below hb
  replace S0 := S0.below hb (by omega)
  replace R0 := R0.below hb
  replace T0 := T0.below hb (by omega)
  have N1 := hb.size
  obtain ⟨p1, g1, rfl, -, -⟩ := RF_of_own O1 (by have := L1.out; omega)
  have k1 : w1.cell? ⟨w.heap.size + 1 + 1, 0, none⟩ = some (.slice none 0 0) := R0.1
  have f1 : w1.frozen? ⟨w.heap.size + 1 + 1, 0, none⟩ = false := T0 0
  have c1 : (w1.setCell ⟨w.heap.size + 1 + 1, 0, none⟩ (.slice p1 x.length g1)).cell? ⟨w.heap.size, 1, none⟩ = some vy := (P0.other (by omega)).2.1
  have EB := Lib.hid B0; have EP := Lib.hid P0; have EQ := Lib.hid Q0; have ES := Lib.hid S0; have ER := Lib.hid R0; have ET := Lib.hid T0; have EO := Lib.hid O1
  clear hb B0 P0 Q0 S0 R0 T0 O1
  go_wp2_with fail
  clear k1 f1 c1
  have B0 : Below w.heap.size w (w1.setCell ⟨w.heap.size + 1 + 1, 0, none⟩ (.slice p1 x.length g1)) := EB.out.setCell (by show _ ≤ w.heap.size + 1 + 1; omega) _
  have P0 := EP.out.other (k := w.heap.size + 1 + 1) (i := 0) (v := .slice p1 x.length g1) (by omega)
  have Q0 := EQ.out.other (k := w.heap.size + 1 + 1) (i := 0) (v := .slice p1 x.length g1) (by omega)
  have R0 := ER.out.set0 (v := .slice p1 x.length g1)
  have S0 := ES.out.set (a := ⟨w.heap.size + 1 + 1, 0, none⟩) (v := .slice p1 x.length g1)
  have T0 := ET.out.set (a := ⟨w.heap.size + 1 + 1, 0, none⟩) (v := .slice p1 x.length g1)
  have O1 := OF_set EO.out (k := w.heap.size + 1 + 1) (i := 0) (by omega) (.slice p1 x.length g1)
  have M1 := size_set w1 ⟨w.heap.size + 1 + 1, 0, none⟩ (.slice p1 x.length g1)
  clear EB EP EQ ES ER ET EO
  generalize w1.setCell ⟨w.heap.size + 1 + 1, 0, none⟩ (.slice p1 x.length g1) = w1' at *
  refine (H2.out _ B0).mono ?_
  rintro e' w2 ⟨ul, rfl, O2, hb⟩
  replace B0 := below_step (Nat.le_refl _) B0 hb
  replace P0 := P0.below hb
  replace Q0 := Q0.below hb
  replace S0 := S0.below hb (by omega)
  replace R0 := R0.below hb
  replace T0 := T0.below hb (by omega)
  replace O1 := OF_below O1 hb
  have N2 := hb.size
  obtain ⟨p2, g2, rfl, -, -⟩ := RF_of_own O2 (by have := L2.out; omega)
  have k1 : w2.cell? ⟨w.heap.size + 1 + 1, 1, none⟩ = some (.slice none 0 0) := R0.2.1
  have f1 := T0
  obtain ⟨a0, a1, a2, a3, a4⟩ : FarmAt (w2.setCell ⟨w.heap.size + 1 + 1, 1, none⟩ (.slice p2 y.length g2)) w.heap.size vx vy r d s := P0.other (by omega)
  obtain ⟨b0, b1, b2, b3, b4⟩ : FarmAt (w2.setCell ⟨w.heap.size + 1 + 1, 1, none⟩ (.slice p2 y.length g2)) (w.heap.size + 1 + 1) (.slice p1 x.length g1) (.slice p2 y.length g2) 0 0 0 := R0.set1
  obtain ⟨d0, d1, d2, d3, d4⟩ : FarmAt (w2.setCell ⟨w.heap.size + 1 + 1, 1, none⟩ (.slice p2 y.length g2)) (w.heap.size + 1) (.slice none 0 0) (.slice none 0 0) 0 0 0 := Q0.other (by omega)
  have z1 : ∀ j, w2.frozen? ⟨w.heap.size + 1, j, none⟩ = false := S0
  have z2 : ∀ j, w2.frozen? ⟨w.heap.size + 1 + 1, j, none⟩ = false := T0
  have EB := Lib.hid B0; have EQ := Lib.hid Q0; have EO := Lib.hid O1; have EO2 := Lib.hid O2
  clear hb B0 P0 Q0 S0 R0 T0 O1 O2 f1
  go_wp2
  refine bodyPost_ret (v := farmV (.slice p1 x.length g1) (.slice p2 y.length g2) r d s) (by simp [results, Try.results26, go_sem, *]) rfl ⟨_, _, rfl, OF_le (B := w0.heap.size) ?_ (by omega), OF_le (B := w1'.heap.size) ?_ (by omega), ?_⟩
  · repeat (first | with_reducible exact EO.out | refine OF_set ?_ (by omega) _)
  · repeat (first | with_reducible exact EO2.out | refine OF_set ?_ (by omega) _)
  · repeat (first | with_reducible exact EB.out | refine Below.setCell ?_ (by dsimp only; omega) _)
theorem l_toFarm (vx vy : Value) (x y : List Nat) (r d s : Nat) (w : World) (hx : RF w vx x) (hy : RF w vy y) (lx : x.length ≤ 1048576) (ly : y.length ≤ 1048576) :
    Calls Try.prog 26 #[farmV vx vy r d s] w fun e' w' => ∃ ux uy, e' = .returned (farmV ux uy r d s) ∧ RF w' ux x ∧ RF w' uy y ∧ Below w.heap.size w w' :=
  (l_toFarmO vx vy x y r d s w hx hy lx ly).mono fun e' w' ⟨ux, uy, he, h1, h2, hb⟩ => ⟨ux, uy, he, RF_of_own h1 (by omega), RF_of_own h2 (by omega), hb⟩
end Go.Proofs.Ytglfjanclopipaa
