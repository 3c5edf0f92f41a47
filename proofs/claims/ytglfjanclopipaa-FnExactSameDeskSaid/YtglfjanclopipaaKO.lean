/- Walks: the law's own copies of a rotor. -/
import Derived.Test.YtglfjanclopipaaKL

namespace Go.Proofs.Ytglfjanclopipaa
set_option linter.unusedSimpArgs false
set_option linter.unusedVariables false
open Go.RowKit Go.Fl Go.Lib

theorem RotAt.other {w : World} {g k i : Nat} {va vl vd vs v : Value} {c : Int} {hub tip : Nat} (h : RotAt w g va vl vd vs c hub tip) (hk : g ≠ k) : RotAt (w.setCell ⟨k, i, none⟩ v) g va vl vd vs c hub tip := by
  obtain ⟨h0, h3, h4, h5, h6⟩ := h
  exact ⟨h0.other hk, (World.cell?_setCell_other _ _ _ _ (ne_addr hk)).trans h3, (World.cell?_setCell_other _ _ _ _ (ne_addr hk)).trans h4, (World.cell?_setCell_other _ _ _ _ (ne_addr hk)).trans h5, (World.cell?_setCell_other _ _ _ _ (ne_addr hk)).trans h6⟩
theorem offs {w : World} {k i j : Nat} {u v : Value} (h : w.cell? ⟨k, j, none⟩ = some u) (hij : i ≠ j) : (w.setCell ⟨k, i, none⟩ v).cell? ⟨k, j, none⟩ = some u := (World.cell?_setCell_other _ _ _ _ (off_ne hij)).trans h
theorem RotAt.setP {w : World} {k : Nat} {va vl vd vs x y z : Value} {c : Int} {hub tip : Nat} (h : RotAt w k va vl vd vs c hub tip) : RotAt (((w.setCell ⟨k, 0, none⟩ x).setCell ⟨k, 1, none⟩ y).setCell ⟨k, 2, none⟩ z) k x y z vs c hub tip := by
  obtain ⟨h0, h3, h4, h5, h6⟩ := h
  refine ⟨((h0.set0 (v := x)).set1 (v := y)).set2 (v := z), ?_, ?_, ?_, ?_⟩
  · exact offs (offs (offs h3 (by decide)) (by decide)) (by decide)
  · exact offs (offs (offs h4 (by decide)) (by decide)) (by decide)
  · exact offs (offs (offs h5 (by decide)) (by decide)) (by decide)
  · exact offs (offs (offs h6 (by decide)) (by decide)) (by decide)
theorem RotAt.setS {w : World} {k : Nat} {va vl vd vs v : Value} {c : Int} {hub tip : Nat} (h : RotAt w k va vl vd vs c hub tip) : RotAt (w.setCell ⟨k, 3, none⟩ v) k va vl vd v c hub tip := by
  obtain ⟨⟨h0, h1, h2⟩, h3, h4, h5, h6⟩ := h
  exact ⟨⟨offs h0 (by decide), offs h1 (by decide), offs h2 (by decide)⟩, World.cell?_setCell_same _ _ _ h3, offs h4 (by decide), offs h5 (by decide), offs h6 (by decide)⟩
theorem OT_le {B B' : Nat} {w : World} {v : Value} {cs : List Sta} (h : OT B w v cs) (hb : B' ≤ B) : OT B' w v cs :=
  ⟨h.1, h.2.imp id fun ⟨g, cap, cur, e, hb1, r⟩ => ⟨g, cap, cur, e, Nat.le_trans hb hb1, r⟩⟩
theorem OT_set {B : Nat} {w : World} {v : Value} {cs : List Sta} (h : OT B w v cs) {k i : Nat} (hk : k < B) (u : Value) : OT B (w.setCell ⟨k, i, none⟩ u) v cs := ownsRow_setCell_below h hk u
set_option maxRecDepth 100000 in
set_option maxHeartbeats 4000000 in
theorem l_toRotorO (va vl vd vs : Value) (a l d : List Nat) (cs : List Sta) (c : Int) (hub tip : Nat) (w : World) (ha : RF w va a) (hl : RF w vl l) (hd : RF w vd d) (hs : RT w vs cs) (la : a.length ≤ 1048576) (ll : l.length ≤ 1048576) (ld : d.length ≤ 1048576) (ls : cs.length ≤ 1048576) :
    Calls Try.prog 23 #[rotV va vl vd vs c hub tip] w fun e' w' => ∃ ua ul ud us, e' = .returned (rotV ua ul ud us c hub tip) ∧ OF w.heap.size w' ua a ∧ OF w.heap.size w' ul l ∧ OF w.heap.size w' ud d ∧ OT w.heap.size w' us cs ∧ Below w.heap.size w w' := by
  have H1 := Lib.hid (fun W (hb : Below w.heap.size w W) => l_toProfileO va vl vd a l d W (RF_below ha hb) (RF_below hl hb) (RF_below hd hb) la ll ld)
  have H2 := Lib.hid (fun W (hb : Below w.heap.size w W) => l_toStationS vs cs W (RT_below hs hb) ls)
  have L1 := Lib.hid la
  have L2 := Lib.hid ll
  have L3 := Lib.hid ld
  have L4 := Lib.hid ls
  clear ha hl hd hs la ll ld ls
  go_enter Try.func23, Try.ntmps23
  go_wp2_with fail
  obtain ⟨w0, hw0⟩ : ∃ w0, w0 = ((w.alloc (.cells #[va, vl, vd, vs, .int .i64 c, .float .f32 hub, .float .f32 tip] 28)).alloc (.cells #[.slice none 0 0, .slice none 0 0, .slice none 0 0, .slice none 0 0, .int .i64 0, .float .f32 0, .float .f32 0] 44)).alloc (.cells #[.slice none 0 0, .slice none 0 0, .slice none 0 0, .slice none 0 0, .int .i64 0, .float .f32 0, .float .f32 0] 44) := ⟨_, rfl⟩
  rw [← hw0]
  have B0 : Below w.heap.size w w0 := by rw [hw0]; exact (by repeat (first | exact Below.refl _ _ | assumption | refine below_drewN ?_ _ | refine below_alloc (Nat.le_refl _) ?_ _ | (refine Below.setCell ?_ (by first | exact Nat.le_refl _ | (simp; done) | (simp; omega) | omega) _) | (refine below_step (Nat.le_refl _) ?_ (by assumption))))
  have P0 : RotAt w0 w.heap.size va vl vd vs c hub tip := by rw [hw0]; exact (rot_top w _ rfl va vl vd vs c hub tip _).below (below_alloc (Nat.le_refl _) (below_alloc (Nat.le_refl _) (Below.refl _ _) _) _)
  have Q0 : RotAt w0 (w.heap.size + 1) (.slice none 0 0) (.slice none 0 0) (.slice none 0 0) (.slice none 0 0) 0 0 0 := by rw [hw0]; exact (rot_top (w.alloc (.cells #[va, vl, vd, vs, .int .i64 c, .float .f32 hub, .float .f32 tip] 28)) _ (by simp) _ _ _ _ _ _ _ 44).below (below_alloc (Nat.le_refl _) (Below.refl _ _) _)
  have S0 : Soft w0 (w.heap.size + 1) := by rw [hw0]; exact (soft_top (w.alloc (.cells #[va, vl, vd, vs, .int .i64 c, .float .f32 hub, .float .f32 tip] 28)) _ (by simp) _ _).below (below_alloc (Nat.le_refl _) (Below.refl _ _) _) (by simp)
  have R0 : RotAt w0 (w.heap.size + 1 + 1) (.slice none 0 0) (.slice none 0 0) (.slice none 0 0) (.slice none 0 0) 0 0 0 := by rw [hw0]; exact rot_top _ _ (by simp) _ _ _ _ _ _ _ _
  have T0 : Soft w0 (w.heap.size + 1 + 1) := by rw [hw0]; exact soft_top _ _ (by simp) _ _
  have N0 : w.heap.size + 3 = w0.heap.size := by rw [hw0]; simp
  clear hw0
  refine (H1.out _ B0).mono ?_
  rintro e' w1 ⟨ua, ul, ud, rfl, O1, O2, O3, hb⟩
  replace B0 := below_step (Nat.le_refl _) B0 hb
  replace P0 := P0.below hb
  replace Q0 := Q0.below hb
  replace S0 := S0.below hb (by omega)
  replace R0 := R0.below hb
  replace T0 := T0.below hb (by omega)
  have N1 := hb.size
  obtain ⟨p1, g1, rfl, -, -⟩ := RF_of_own O1 (by have := L1.out; omega)
  obtain ⟨p2, g2, rfl, -, -⟩ := RF_of_own O2 (by have := L2.out; omega)
  obtain ⟨p3, g3, rfl, -, -⟩ := RF_of_own O3 (by have := L3.out; omega)
  obtain ⟨⟨b0, b1, b2⟩, -⟩ := id R0
  have z1 : ∀ j, w1.frozen? ⟨w.heap.size + 1 + 1, j, none⟩ = false := T0
  have c1 : (((w1.setCell ⟨w.heap.size + 1 + 1, 0, none⟩ (.slice p1 a.length g1)).setCell ⟨w.heap.size + 1 + 1, 1, none⟩ (.slice p2 l.length g2)).setCell ⟨w.heap.size + 1 + 1, 2, none⟩ (.slice p3 d.length g3)).cell? ⟨w.heap.size, 3, none⟩ = some vs := (((P0.other (by omega)).other (by omega)).other (by omega)).2.1
  have EB := Lib.hid B0; have EP := Lib.hid P0; have EQ := Lib.hid Q0; have ES := Lib.hid S0; have ER := Lib.hid R0; have ET := Lib.hid T0; have EO := Lib.hid O1; have EO2 := Lib.hid O2; have EO3 := Lib.hid O3
  clear hb B0 P0 Q0 S0 R0 T0 O1 O2 O3
  go_wp2_with fail
  clear c1 z1 b0 b1 b2
  have B0 : Below w.heap.size w (((w1.setCell ⟨w.heap.size + 1 + 1, 0, none⟩ (.slice p1 a.length g1)).setCell ⟨w.heap.size + 1 + 1, 1, none⟩ (.slice p2 l.length g2)).setCell ⟨w.heap.size + 1 + 1, 2, none⟩ (.slice p3 d.length g3)) := by repeat (first | with_reducible exact EB.out | refine Below.setCell ?_ (by dsimp only; omega) _)
  have P0 : RotAt (((w1.setCell ⟨w.heap.size + 1 + 1, 0, none⟩ (.slice p1 a.length g1)).setCell ⟨w.heap.size + 1 + 1, 1, none⟩ (.slice p2 l.length g2)).setCell ⟨w.heap.size + 1 + 1, 2, none⟩ (.slice p3 d.length g3)) w.heap.size va vl vd vs c hub tip := ((EP.out.other (by omega)).other (by omega)).other (by omega)
  have Q0 : RotAt (((w1.setCell ⟨w.heap.size + 1 + 1, 0, none⟩ (.slice p1 a.length g1)).setCell ⟨w.heap.size + 1 + 1, 1, none⟩ (.slice p2 l.length g2)).setCell ⟨w.heap.size + 1 + 1, 2, none⟩ (.slice p3 d.length g3)) (w.heap.size + 1) (.slice none 0 0) (.slice none 0 0) (.slice none 0 0) (.slice none 0 0) 0 0 0 := ((EQ.out.other (by omega)).other (by omega)).other (by omega)
  have R0 : RotAt (((w1.setCell ⟨w.heap.size + 1 + 1, 0, none⟩ (.slice p1 a.length g1)).setCell ⟨w.heap.size + 1 + 1, 1, none⟩ (.slice p2 l.length g2)).setCell ⟨w.heap.size + 1 + 1, 2, none⟩ (.slice p3 d.length g3)) (w.heap.size + 1 + 1) (.slice p1 a.length g1) (.slice p2 l.length g2) (.slice p3 d.length g3) (.slice none 0 0) 0 0 0 := ER.out.setP
  have S0 : Soft (((w1.setCell ⟨w.heap.size + 1 + 1, 0, none⟩ (.slice p1 a.length g1)).setCell ⟨w.heap.size + 1 + 1, 1, none⟩ (.slice p2 l.length g2)).setCell ⟨w.heap.size + 1 + 1, 2, none⟩ (.slice p3 d.length g3)) (w.heap.size + 1) := ((ES.out.set).set).set
  have T0 : Soft (((w1.setCell ⟨w.heap.size + 1 + 1, 0, none⟩ (.slice p1 a.length g1)).setCell ⟨w.heap.size + 1 + 1, 1, none⟩ (.slice p2 l.length g2)).setCell ⟨w.heap.size + 1 + 1, 2, none⟩ (.slice p3 d.length g3)) (w.heap.size + 1 + 1) := ((ET.out.set).set).set
  have O1 : OF w0.heap.size (((w1.setCell ⟨w.heap.size + 1 + 1, 0, none⟩ (.slice p1 a.length g1)).setCell ⟨w.heap.size + 1 + 1, 1, none⟩ (.slice p2 l.length g2)).setCell ⟨w.heap.size + 1 + 1, 2, none⟩ (.slice p3 d.length g3)) (.slice p1 a.length g1) a := OF_set (OF_set (OF_set EO.out (by omega) _) (by omega) _) (by omega) _
  have O2 : OF w0.heap.size (((w1.setCell ⟨w.heap.size + 1 + 1, 0, none⟩ (.slice p1 a.length g1)).setCell ⟨w.heap.size + 1 + 1, 1, none⟩ (.slice p2 l.length g2)).setCell ⟨w.heap.size + 1 + 1, 2, none⟩ (.slice p3 d.length g3)) (.slice p2 l.length g2) l := OF_set (OF_set (OF_set EO2.out (by omega) _) (by omega) _) (by omega) _
  have O3 : OF w0.heap.size (((w1.setCell ⟨w.heap.size + 1 + 1, 0, none⟩ (.slice p1 a.length g1)).setCell ⟨w.heap.size + 1 + 1, 1, none⟩ (.slice p2 l.length g2)).setCell ⟨w.heap.size + 1 + 1, 2, none⟩ (.slice p3 d.length g3)) (.slice p3 d.length g3) d := OF_set (OF_set (OF_set EO3.out (by omega) _) (by omega) _) (by omega) _
  have M1 : (((w1.setCell ⟨w.heap.size + 1 + 1, 0, none⟩ (.slice p1 a.length g1)).setCell ⟨w.heap.size + 1 + 1, 1, none⟩ (.slice p2 l.length g2)).setCell ⟨w.heap.size + 1 + 1, 2, none⟩ (.slice p3 d.length g3)).heap.size = w1.heap.size := by simp
  clear EB EP EQ ES ER ET EO EO2 EO3
  generalize (((w1.setCell ⟨w.heap.size + 1 + 1, 0, none⟩ (.slice p1 a.length g1)).setCell ⟨w.heap.size + 1 + 1, 1, none⟩ (.slice p2 l.length g2)).setCell ⟨w.heap.size + 1 + 1, 2, none⟩ (.slice p3 d.length g3)) = w1' at *
  refine (H2.out _ B0).mono ?_
  rintro e' w2 ⟨us, rfl, O4, hb⟩
  replace B0 := below_step (Nat.le_refl _) B0 hb
  replace P0 := P0.below hb
  replace Q0 := Q0.below hb
  replace S0 := S0.below hb (by omega)
  replace R0 := R0.below hb
  replace T0 := T0.below hb (by omega)
  replace O1 := OF_below O1 hb
  replace O2 := OF_below O2 hb
  replace O3 := OF_below O3 hb
  have N2 := hb.size
  obtain ⟨p4, g4, rfl, -, -⟩ := RT_of_own O4 (by have := L4.out; omega)
  have k1 : w2.cell? ⟨w.heap.size + 1 + 1, 3, none⟩ = some (.slice none 0 0) := R0.2.1
  obtain ⟨⟨-, -, -⟩, -, a4, a5, a6⟩ : RotAt (w2.setCell ⟨w.heap.size + 1 + 1, 3, none⟩ (.slice p4 cs.length g4)) w.heap.size va vl vd vs c hub tip := P0.other (by omega)
  obtain ⟨⟨b0, b1, b2⟩, b3, b4, b5, b6⟩ : RotAt (w2.setCell ⟨w.heap.size + 1 + 1, 3, none⟩ (.slice p4 cs.length g4)) (w.heap.size + 1 + 1) (.slice p1 a.length g1) (.slice p2 l.length g2) (.slice p3 d.length g3) (.slice p4 cs.length g4) 0 0 0 := R0.setS
  obtain ⟨⟨d0, d1, d2⟩, d3, d4, d5, d6⟩ : RotAt (w2.setCell ⟨w.heap.size + 1 + 1, 3, none⟩ (.slice p4 cs.length g4)) (w.heap.size + 1) (.slice none 0 0) (.slice none 0 0) (.slice none 0 0) (.slice none 0 0) 0 0 0 := Q0.other (by omega)
  have z1 : ∀ j, w2.frozen? ⟨w.heap.size + 1, j, none⟩ = false := S0
  have z2 : ∀ j, w2.frozen? ⟨w.heap.size + 1 + 1, j, none⟩ = false := T0
  have EB := Lib.hid B0; have EO := Lib.hid O1; have EO2 := Lib.hid O2; have EO3 := Lib.hid O3; have EO4 := Lib.hid O4
  clear hb B0 P0 Q0 S0 R0 T0 O1 O2 O3 O4
  go_wp2
  refine bodyPost_ret (v := rotV (.slice p1 a.length g1) (.slice p2 l.length g2) (.slice p3 d.length g3) (.slice p4 cs.length g4) c hub tip) (by simp [results, Try.results23, go_sem, *]) rfl ⟨_, _, _, _, rfl, OF_le (B := w0.heap.size) ?_ (by omega), OF_le (B := w0.heap.size) ?_ (by omega), OF_le (B := w0.heap.size) ?_ (by omega), OT_le (B := w1'.heap.size) ?_ (by omega), ?_⟩
  · repeat (first | with_reducible exact EO.out | refine OF_set ?_ (by omega) _)
  · repeat (first | with_reducible exact EO2.out | refine OF_set ?_ (by omega) _)
  · repeat (first | with_reducible exact EO3.out | refine OF_set ?_ (by omega) _)
  · repeat (first | with_reducible exact EO4.out | refine OT_set ?_ (by omega) _)
  · repeat (first | with_reducible exact EB.out | refine Below.setCell ?_ (by dsimp only; omega) _)
theorem l_toRotor (va vl vd vs : Value) (a l d : List Nat) (cs : List Sta) (c : Int) (hub tip : Nat) (w : World) (ha : RF w va a) (hl : RF w vl l) (hd : RF w vd d) (hs : RT w vs cs) (la : a.length ≤ 1048576) (ll : l.length ≤ 1048576) (ld : d.length ≤ 1048576) (ls : cs.length ≤ 1048576) :
    Calls Try.prog 23 #[rotV va vl vd vs c hub tip] w fun e' w' => ∃ ua ul ud us, e' = .returned (rotV ua ul ud us c hub tip) ∧ RF w' ua a ∧ RF w' ul l ∧ RF w' ud d ∧ RT w' us cs ∧ Below w.heap.size w w' :=
  (l_toRotorO va vl vd vs a l d cs c hub tip w ha hl hd hs la ll ld ls).mono fun e' w' ⟨ua, ul, ud, us, he, h1, h2, h3, h4, hb⟩ => ⟨ua, ul, ud, us, he, RF_of_own h1 (by omega), RF_of_own h2 (by omega), RF_of_own h3 (by omega), RT_of_own h4 (by omega), hb⟩
set_option maxHeartbeats 1000000 in
theorem l_szRotor (va vl vd vs : Value) (na nl nd ns : Nat) (c : Int) (hub tip : Nat) (w : World) (left : Int) (h0 : 0 ≤ left) (h1 : left ≤ 1048576) (ha : RFn va na) (hl : RFn vl nl) (hd : RFn vd nd) (hs : RFn vs ns) :
    Calls Try.prog 17 #[rotV va vl vd vs c hub tip, .int .i64 left] w fun e w' => (∃ r : Int, e = .returned (.int .i64 r) ∧ (0 ≤ r → r = left - (na + nl + nd + ns))) ∧ Below w.heap.size w w' := by
  obtain ⟨ps, gs, rfl, ms⟩ := hs
  have HZ := Lib.hid (fun W => l_szProfile va vl vd na nl nd W left h0 h1 ha hl hd)
  have HS := Lib.hid (fun left h0 h1 W => l_szStationS ps ns gs left h0 h1 ms W)
  go_enter Try.func17, Try.ntmps17
  go_wp2_with fail
  refine (HZ.out _).mono ?_
  rintro e w1 ⟨⟨r, rfl, hr⟩, hb⟩
  have HB := Lib.hid (below_step (Nat.le_refl _) (below_alloc (Nat.le_refl _) (Below.refl _ _) _) hb)
  obtain ⟨-, c3, -⟩ := (rot_top w _ rfl va vl vd (.slice ps ns gs) c hub tip 28).below hb
  have HR := Lib.hid hr
  clear hb hr
  by_cases q1 : r < 0
  · go_wp2
    go_ret
    exact ⟨⟨_, rfl, fun h => absurd h (by decide)⟩, HB.out⟩
  have hr2 := HR.out (by omega)
  have HS2 := HS.out r (by omega) (by omega)
  by_cases q2 : r - ns < 0
  · simp only [q2, if_true] at HS2
    have HS3 := Lib.hid HS2
    clear HS2 HS HZ hr2
    go_wp2_with fail
    refine (HS3.out _).mono ?_
    rintro e w2 ⟨rfl, n2, rfl⟩
    go_wp2
    go_ret
    exact ⟨⟨_, rfl, fun h => absurd h (by decide)⟩, below_drewN HB.out _⟩
  · simp only [q2, if_false] at HS2
    have HS3 := Lib.hid HS2
    have HR2 := Lib.hid hr2
    clear HS2 HS HZ hr2
    go_wp2_with fail
    refine (HS3.out _).mono ?_
    rintro e w2 ⟨rfl, n2, rfl⟩
    go_wp2
    go_ret
    exact ⟨⟨_, rfl, fun _ => by have := HR2.out; omega⟩, below_drewN HB.out _⟩
set_option maxHeartbeats 2000000 in
theorem l_eqRotor (va vl vd vs ua ul ud us : Value) (a l d : List Nat) (cs : List Sta) (c : Int) (hub tip : Nat) (w : World) (ha : RF w va a) (hl : RF w vl l) (hd : RF w vd d) (hs : RT w vs cs) (ka : RF w ua a) (kl : RF w ul l) (kd : RF w ud d) (ks : RT w us cs) :
    Calls Try.prog 31 #[rotV va vl vd vs c hub tip, rotV ua ul ud us c hub tip] w fun e' w' => e' = .returned (.bool true) ∧ Below w.heap.size w w' := by
  have H1 := Lib.hid (fun W (hb : Below w.heap.size w W) => l_eqProfile va vl vd ua ul ud a l d W (RF_below ha hb) (RF_below hl hb) (RF_below hd hb) (RF_below ka hb) (RF_below kl hb) (RF_below kd hb))
  have H2 := Lib.hid (fun W (hb : Below w.heap.size w W) => l_eqStationS vs us cs W (RT_below hs hb) (RT_below ks hb))
  clear ha hl hd hs ka kl kd ks
  go_enter Try.func31, Try.ntmps31
  go_wp2_with fail
  have B0 : Below w.heap.size w ((w.alloc (.cells #[va, vl, vd, vs, .int .i64 c, .float .f32 hub, .float .f32 tip] 44)).alloc (.cells #[ua, ul, ud, us, .int .i64 c, .float .f32 hub, .float .f32 tip] 44)) := (by repeat (first | exact Below.refl _ _ | assumption | refine below_drewN ?_ _ | refine below_alloc (Nat.le_refl _) ?_ _ | (refine Below.setCell ?_ (by first | exact Nat.le_refl _ | (simp; done) | (simp; omega) | omega) _) | (refine below_step (Nat.le_refl _) ?_ (by assumption))))
  have P0 := (rot_top w _ rfl va vl vd vs c hub tip 44).below (below_alloc (Nat.le_refl _) (Below.refl _ _) (.cells #[ua, ul, ud, us, .int .i64 c, .float .f32 hub, .float .f32 tip] 44))
  have R0 := rot_top (w.alloc (.cells #[va, vl, vd, vs, .int .i64 c, .float .f32 hub, .float .f32 tip] 44)) (w.heap.size + 1) (by simp) ua ul ud us c hub tip 44
  refine (H1.out _ B0).mono ?_
  rintro e' w1 ⟨rfl, hb⟩
  replace B0 := below_step (Nat.le_refl _) B0 hb
  replace P0 := P0.below hb
  replace R0 := R0.below hb
  have EP := Lib.hid P0
  have ER := Lib.hid R0
  have EB := Lib.hid B0
  obtain ⟨-, c3, -⟩ := P0
  obtain ⟨-, e3, -⟩ := R0
  clear hb B0
  go_wp2_with fail
  refine (H2.out _ EB.out).mono ?_
  rintro e' w2 ⟨rfl, hb⟩
  clear c3 e3
  obtain ⟨-, -, c4, c5, c6⟩ := EP.out.below hb
  obtain ⟨-, -, e4, e5, e6⟩ := ER.out.below hb
  replace EB := Lib.hid (below_step (Nat.le_refl _) EB.out hb)
  clear hb EP ER
  have H1' := hrfl (cn .f32 hub)
  have H2' := hrfl (cn .f32 tip)
  go_wp2_with (first | (refine wpList_widen (dst := 114) rfl rfl rfl (by kernel_rfl) (by exact Try.underlying114) (by first | assumption | exact hrfl _) ?_; intro r n hr) | (go_at_call 71; refine (l_sameFloat _ _ (Eq.trans (Hid.out (by assumption)) (Eq.symm (Hid.out (by assumption)))) _).mono ?_; rintro e w' ⟨rfl, n, rfl⟩))
  go_ret
  refine ⟨rfl, ?_⟩
  repeat (first | with_reducible exact EB.out | refine below_drewN ?_ _)
end Go.Proofs.Ytglfjanclopipaa
