/- Walks: towers and winds that are drawn; numbers that are the same. -/
import Derived.Test.YtmpmnhnobgidoaaVW
import Derived.Laws.Externs
namespace Go.Proofs.Ytmpmnhnobgidoaa
set_option linter.unusedSimpArgs false
set_option linter.unusedVariables false
open Go.RowKit Go.Fl Go.Lib

theorem mw_fin : ∀ i : Fin 16, fin .f32 (mW i.val) = true ∧ fin .f32 (sW i.val) = true := by decide +kernel
/-- A wind in quarters. -/
def qW (k : Nat) : Nat := fa .quo .f32 (floatOfInt .f32 ((k : Nat) : Int)) 1082130432
theorem qw_fin : ∀ k : Fin 25, fin .f32 (qW k.val) = true := by decide +kernel
theorem m_int {x : Int} (h0 : 0 ≤ x) (h1 : x < 16) : ∃ i : Nat, i < 16 ∧ x = (i : Int) ∧ fa .quo .f32 (floatOfInt .f32 (1 + x)) 1082130432 = mW i ∧ fa .quo .f32 (floatOfInt .f32 (1 + x)) 1073741824 = sW i ∧ IntKind.i64.wrap (1 + x) = 1 + x := by
  obtain ⟨i, rfl⟩ : ∃ i : Nat, x = (i : Int) := ⟨x.toNat, by omega⟩
  refine ⟨i, by omega, rfl, ?_, ?_, by rw [IntKind.wrap_i64]; omega⟩
  · unfold mW; rw [Int.natCast_add, Int.add_comm]; rfl
  · unfold sW; rw [Int.natCast_add, Int.add_comm]; rfl
theorem Only.cell {g : Nat} {w w' : World} (h : Only g (g + 1) w w') {p : Addr} {v : Value} (hc : w.cell? p = some v) (hp : p.block ≠ g) : w'.cell? p = some v := by
  have hl := block_lt_of_cell hc
  have := h.block p.block hl (by omega)
  unfold World.cell? at *
  rw [this]; exact hc
theorem Only.soft {g : Nat} {w w' : World} (h : Only g (g + 1) w w') {b j : Nat} (hs : w.frozen? ⟨b, j, none⟩ = false) (hl : b < w.heap.size) (hp : b ≠ g) : w'.frozen? ⟨b, j, none⟩ = false := by
  have := h.block b hl (by omega)
  unfold World.frozen? at *
  rw [this]; exact hs
/-- While a tower is drawn: the place of the result, where draws are at, the tower. -/
structure Dr (w W : World) (v : Value) (p R g T a b c : Nat) : Prop where
  src : Src W g v p
  cr : TowAt W R 0 0 0
  sr : ∀ j, W.frozen? ⟨R, j, none⟩ = false
  ct : TowAt W T a b c
  st : ∀ j, W.frozen? ⟨T, j, none⟩ = false
  lt : R < g ∧ g < T
  below : Below R w W
theorem Dr.pick {w W W' : World} {v : Value} {p R g T a b c : Nat} (h : Dr w W v p R g T a b c) (ho : Only g (g + 1) W W') (hs : Src W' g v (p + 1)) : Dr w W' v (p + 1) R g T a b c := by
  obtain ⟨l1, l2⟩ := h.lt
  obtain ⟨r0, r1, r2⟩ := h.cr
  obtain ⟨t0, t1, t2⟩ := h.ct
  exact ⟨hs, ⟨ho.cell r0 (by show R ≠ g; omega), ho.cell r1 (by show R ≠ g; omega), ho.cell r2 (by show R ≠ g; omega)⟩, fun j => ho.soft (h.sr j) (block_lt_of_cell r0) (by omega),
    ⟨ho.cell t0 (by show T ≠ g; omega), ho.cell t1 (by show T ≠ g; omega), ho.cell t2 (by show T ≠ g; omega)⟩, fun j => ho.soft (h.st j) (block_lt_of_cell t0) (by omega), h.lt,
    h.below.trans (ho.below (by omega) (Nat.le_of_lt (Nat.lt_of_le_of_lt (Nat.le_of_lt l1) (block_lt_of_cell h.src.c0))))⟩
theorem soft_set {w : World} {p q : Addr} {v : Value} (h : w.frozen? q = false) : (w.setCell p v).frozen? q = false := by
  rw [World.frozen?_setCell]; exact h
theorem Dr.set {w W : World} {v : Value} {p R g T a b c i x : Nat} (h : Dr w W v p R g T a b c) (hi : i = 1 ∨ i = 2) : Dr w (W.setCell ⟨T, i, none⟩ (.float .f32 x)) v p R g T a (if i = 1 then x else b) (if i = 2 then x else c) := by
  obtain ⟨l1, l2⟩ := h.lt
  obtain ⟨r0, r1, r2⟩ := h.cr
  obtain ⟨t0, t1, t2⟩ := h.ct
  have hT : T < W.heap.size := block_lt_of_cell t0
  have hb : Below T W (W.setCell ⟨T, i, none⟩ (.float .f32 x)) := (Below.refl _ _).setCell (p := ⟨T, i, none⟩) (Nat.le_refl _) _
  have ho : ∀ {q : Addr} {u : Value}, W.cell? q = some u → q ≠ ⟨T, i, none⟩ → (W.setCell ⟨T, i, none⟩ (.float .f32 x)).cell? q = some u := fun hc hne => (World.cell?_setCell_other W _ _ _ (fun e => hne e.symm)).trans hc
  have hs : (W.setCell ⟨T, i, none⟩ (.float .f32 x)).cell? ⟨T, i, none⟩ = some (.float .f32 x) := by
    rcases hi with rfl | rfl
    · exact World.cell?_setCell_same W _ _ t1
    · exact World.cell?_setCell_same W _ _ t2
  refine ⟨h.src.belowB l2 hb, ⟨ho r0 (by intro e; injection e; omega), ho r1 (by intro e; injection e; omega), ho r2 (by intro e; injection e; omega)⟩, fun j => soft_set (h.sr j), ⟨ho t0 (by intro e; injection e; omega), ?_, ?_⟩, fun j => soft_set (h.st j), h.lt, h.below.setCell (p := ⟨T, i, none⟩) (by show R ≤ T; omega) _⟩
  · rcases hi with rfl | rfl
    · exact hs
    · exact ho t1 (by intro e; injection e; omega)
  · rcases hi with rfl | rfl
    · exact ho t2 (by intro e; injection e; omega)
    · exact hs
set_option maxRecDepth 100000 in
set_option maxHeartbeats 2000000 in
theorem s_B10Tower (v : Value) (bs : List Nat) (w : World) (hv : RB w v bs) : Calls Try.prog 26 #[v] w fun e w' => (∃ i j l : Nat, i < 8 ∧ j < 16 ∧ l < 4 ∧ e = .returned (tow (mW i) (mW l) (sW j))) ∧ Below w.heap.size w w' := by
  have HV := Lib.hid hv
  have HF := Lib.hid (fun W (h : RB W v bs) => s_l00From v bs W h)
  clear hv
  go_enter Try.func26, Try.ntmps26
  go_wp2_with fail
  refine (HF.out _ (RB_below HV.out (by repeat (first | exact Below.refl _ _ | assumption | refine below_drewN ?_ _ | refine below_alloc (Nat.le_refl _) ?_ _ | (refine Below.setCell ?_ (by first | exact Nat.le_refl _ | (simp; done) | (simp; omega) | omega) _) | (refine below_step (Nat.le_refl _) ?_ (by assumption)))))).mono ?_
  rintro e' w1 ⟨rfl, hS, hb⟩
  obtain ⟨R, hR⟩ : ∃ R, R = w.heap.size := ⟨_, rfl⟩
  have hsz : (w.alloc (.cells #[.float .f32 0, .float .f32 0, .float .f32 0] 53)).heap.size = R + 1 := by rw [World.size_alloc, hR]
  rw [hsz] at hS
  rw [hsz, ← hR]
  have hcr : TowAt w1 R 0 0 0 := TowAt.below (tow_top w R hR 0 0 0 _) hb (by rw [hsz]; omega)
  have hsr : ∀ j, w1.frozen? ⟨R, j, none⟩ = false := fun j => (hb.frozen (p := ⟨R, j, none⟩) (by rw [hsz]; show R < R + 1; omega)).trans (by rw [hR]; exact softT w _ j)
  have hbb : Below R w w1 := by rw [hR]; exact below_step (Nat.le_refl _) (below_alloc (Nat.le_refl _) (Below.refl _ _) _) hb
  have HR := Lib.hid hR
  have HS := Lib.hid hS
  have HCR := Lib.hid hcr
  have HSR := Lib.hid hsr
  have HB := Lib.hid hbb
  clear hR hsz hS hb hcr hsr hbb HF
  have HV1 := Lib.hid (RB_below HV.out (by rw [← HR.out]; exact HB.out))
  go_wp2_with fail
  refine (s_pick (R + 1) v bs 0 8 w1 HS.out HV1.out (by decide) (by decide) (by decide)).mono ?_
  rintro e' w2 ⟨⟨x, rfl, x0, x1⟩, hS2, hOn⟩
  obtain ⟨i, -, hi, e1, -, hw⟩ := m_int x0 (by omega)
  have hi8 : i < 8 := by omega
  obtain ⟨q, hq⟩ := Rv.of_fin (mw_fin ⟨i, by omega⟩).1
  have r1 : ∀ w, (binOp .quo 26 (.float .f32 (floatOfInt .f32 (1 + x))) (.float .f32 1082130432)).run Try.prog w = .ok (.float .f32 (mW i)) w := by
    have h := run_arith (P := Try.prog) (k := .f32) (op := .quo) (x := floatOfInt .f32 (1 + x)) (y := 1082130432) 26 (by rw [e1]; exact hq)
    rwa [e1] at h
  have HS2 := Lib.hid hS2
  have HON := Lib.hid hOn
  have HI := Lib.hid hi8
  clear hS2 hOn hi e1 hq hi8
  generalize hM : mW i = M at *
  have HM := Lib.hid hM
  clear hM
  go_wp2_with fail
  obtain ⟨T, hT⟩ : ∃ T, T = w2.heap.size := ⟨_, rfl⟩
  have hg2 : R + 1 < w2.heap.size := block_lt_of_cell HS2.out.c0
  have hD : Dr w (w2.alloc (.cells #[.float .f32 M, .float .f32 0, .float .f32 0] 53)) v 1 R (R + 1) T M 0 0 := by
    have hb3 : Below w2.heap.size w2 (w2.alloc (.cells #[.float .f32 M, .float .f32 0, .float .f32 0] 53)) := below_alloc (Nat.le_refl _) (Below.refl _ _) _
    obtain ⟨q0, q1, q2⟩ := HCR.out
    have hcr : TowAt w2 R 0 0 0 := ⟨HON.out.cell q0 (by show R ≠ R + 1; omega), HON.out.cell q1 (by show R ≠ R + 1; omega), HON.out.cell q2 (by show R ≠ R + 1; omega)⟩
    refine ⟨HS2.out.below hb3, TowAt.below hcr hb3 (by omega), fun j => (hb3.frozen (p := ⟨R, j, none⟩) (by show R < _; omega)).trans (HON.out.soft (HSR.out j) (block_lt_of_cell q0) (by omega)), tow_top w2 T hT M 0 0 _, fun j => by rw [hT]; exact softT w2 _ j, ⟨by omega, by omega⟩, ?_⟩
    have h1 : Below R w1 w2 := HON.out.below (by omega) (Nat.le_of_lt (Nat.lt_of_le_of_lt (Nat.le_succ R) (block_lt_of_cell HS.out.c0)))
    exact (HB.out.trans h1).trans (hb3.mono (by omega))
  have HD := Lib.hid hD
  rw [← hT]
  clear hT hg2 hD HS2 HON HS HCR HSR HB HV1 r1 hw
  generalize w2.alloc (.cells #[.float .f32 M, .float .f32 0, .float .f32 0] 53) = w3 at *
  refine (s_pick (R + 1) v bs 1 16 w3 HD.out.src (RB_below HV.out (by rw [← HR.out]; exact HD.out.below)) (by decide) (by decide) (by decide)).mono ?_
  rintro e' w4 ⟨⟨y, rfl, y0, y1⟩, hS2, hOn⟩
  replace HD := Lib.hid (HD.out.pick hOn hS2)
  obtain ⟨j, hj16, hj, -, e1, hw⟩ := m_int y0 y1
  obtain ⟨q, hq⟩ := Rv.of_fin (mw_fin ⟨j, by omega⟩).2
  have r1 : ∀ w, (binOp .quo 26 (.float .f32 (floatOfInt .f32 (1 + y))) (.float .f32 1073741824)).run Try.prog w = .ok (.float .f32 (sW j)) w := by
    have h := run_arith (P := Try.prog) (k := .f32) (op := .quo) (x := floatOfInt .f32 (1 + y)) (y := 1073741824) 26 (by rw [e1]; exact hq)
    rwa [e1] at h
  have HJ := Lib.hid hj16
  clear hS2 hOn hj e1 hq
  generalize hS' : sW j = S at *
  have HSS := Lib.hid hS'
  clear hS'
  obtain ⟨d0, d1, d2⟩ := HD.out.ct
  have f2 := HD.out.st 2
  go_wp2_with fail
  replace HD := Lib.hid (HD.out.set (i := 2) (x := S) (.inr rfl))
  generalize w4.setCell ⟨T, 2, none⟩ (.float .f32 S) = w5 at *
  clear d0 d1 d2 f2 r1 hw
  refine (s_pick (R + 1) v bs 2 4 w5 HD.out.src (RB_below HV.out (by rw [← HR.out]; exact HD.out.below)) (by decide) (by decide) (by decide)).mono ?_
  rintro e' w6 ⟨⟨z, rfl, z0, z1⟩, hS2, hOn⟩
  replace HD := Lib.hid (HD.out.pick hOn hS2)
  obtain ⟨l, -, hl, e1, -, hw⟩ := m_int z0 (by omega)
  have hl4 : l < 4 := by omega
  obtain ⟨q, hq⟩ := Rv.of_fin (mw_fin ⟨l, by omega⟩).1
  have r1 : ∀ w, (binOp .quo 26 (.float .f32 (floatOfInt .f32 (1 + z))) (.float .f32 1082130432)).run Try.prog w = .ok (.float .f32 (mW l)) w := by
    have h := run_arith (P := Try.prog) (k := .f32) (op := .quo) (x := floatOfInt .f32 (1 + z)) (y := 1082130432) 26 (by rw [e1]; exact hq)
    rwa [e1] at h
  have HLL := Lib.hid hl4
  clear hS2 hOn hl e1 hq hl4
  generalize hL' : mW l = L at *
  have HLW := Lib.hid hL'
  clear hL'
  obtain ⟨d0, d1, d2⟩ := HD.out.ct
  have f1 := HD.out.st 1
  replace HD := Lib.hid (HD.out.set (i := 1) (x := L) (.inl rfl))
  obtain ⟨w7, hw7⟩ : ∃ w7, w7 = w6.setCell ⟨T, 1, none⟩ (.float .f32 L) := ⟨_, rfl⟩
  rw [← hw7] at HD
  have HD7 := Lib.hid HD.out
  simp only [show ((1 : Nat) = 2) = False by decide, if_false, if_true, show ((2 : Nat) = 1) = False by decide] at HD7
  obtain ⟨g0, g1, g2⟩ := HD7.out.ct
  obtain ⟨r0, r1', r2⟩ := HD7.out.cr
  have s0 := HD7.out.sr 0
  have s1 := HD7.out.sr 1
  have s2 := HD7.out.sr 2
  have HW7 := Lib.hid hw7
  rw [hw7] at g0 g1 g2 r0 r1' r2 s0 s1 s2
  clear hw7
  go_wp2
  rw [← HW7.out] at r0 r1' r2 ⊢
  have c0 : (((w7.setCell ⟨R, 0, none⟩ (.float .f32 M)).setCell ⟨R, 1, none⟩ (.float .f32 L)).setCell ⟨R, 2, none⟩ (.float .f32 S)).cell? ⟨R, 0, none⟩ = some (.float .f32 M) := by
    rw [World.cell?_setCell_other _ _ _ _ (by simp), World.cell?_setCell_other _ _ _ _ (by simp)]
    exact World.cell?_setCell_same _ _ _ r0
  have c1 : (((w7.setCell ⟨R, 0, none⟩ (.float .f32 M)).setCell ⟨R, 1, none⟩ (.float .f32 L)).setCell ⟨R, 2, none⟩ (.float .f32 S)).cell? ⟨R, 1, none⟩ = some (.float .f32 L) := by
    rw [World.cell?_setCell_other _ _ _ _ (by simp)]
    exact World.cell?_setCell_same _ _ _ ((World.cell?_setCell_other _ _ _ _ (by simp)).trans r1')
  have c2 : (((w7.setCell ⟨R, 0, none⟩ (.float .f32 M)).setCell ⟨R, 1, none⟩ (.float .f32 L)).setCell ⟨R, 2, none⟩ (.float .f32 S)).cell? ⟨R, 2, none⟩ = some (.float .f32 S) :=
    World.cell?_setCell_same _ _ _ ((World.cell?_setCell_other _ _ _ _ (by simp)).trans ((World.cell?_setCell_other _ _ _ _ (by simp)).trans r2))
  have hbw : Below w.heap.size w (((w7.setCell ⟨R, 0, none⟩ (.float .f32 M)).setCell ⟨R, 1, none⟩ (.float .f32 L)).setCell ⟨R, 2, none⟩ (.float .f32 S)) := by
    rw [← HR.out]
    exact ((HD7.out.below.setCell (p := ⟨R, 0, none⟩) (Nat.le_refl _) _).setCell (p := ⟨R, 1, none⟩) (Nat.le_refl _) _).setCell (p := ⟨R, 2, none⟩) (Nat.le_refl _) _
  generalize ((w7.setCell ⟨R, 0, none⟩ (.float .f32 M)).setCell ⟨R, 1, none⟩ (.float .f32 L)).setCell ⟨R, 2, none⟩ (.float .f32 S) = w8 at *
  exact bodyPost_ret (v := tow M L S) (by simp [results, Try.results26, go_sem, c0, c1, c2]) rfl ⟨⟨i, j, l, HI.out, HJ.out, HLL.out, by rw [HM.out, HLW.out, HSS.out]⟩, hbw⟩
set_option maxRecDepth 100000 in
set_option maxHeartbeats 1000000 in
theorem s_B10Winds (v : Value) (bs : List Nat) (w : World) (hv : RB w v bs) : Calls Try.prog 31 #[v, .int .i64 6] w fun e w' => ∃ u xs, e = .returned u ∧ OF w.heap.size w' u xs ∧ xs.length = 6 ∧ (∀ x ∈ xs, ∃ k : Nat, k < 25 ∧ x = qW k) ∧ Below w.heap.size w w' := by
  have HF := Lib.hid (s_l00From v bs w hv)
  have HV := Lib.hid hv
  clear hv
  go_enter Try.func31, Try.ntmps31
  go_wp2_with fail
  refine HF.out.mono ?_
  rintro e' w1 ⟨rfl, hS, hb⟩
  obtain ⟨g, hg⟩ : ∃ g, g = w.heap.size := ⟨_, rfl⟩
  rw [← hg] at hS
  rw [← hg]
  have hS1 : Src (w1.alloc (.cells #[] 26)) g v 0 := hS.below (below_alloc (Nat.le_refl _) (Below.refl _ _) _)
  have hgw1 : g < w1.heap.size := block_lt_of_cell hS.c0
  have hO1 : g + 1 ≤ w1.heap.size := hgw1
  have hO : OF (g + 1) (w1.alloc (.cells #[] 26)) (.slice (some ⟨w1.heap.size, 0, none⟩) 0 0) [] := OF_empty _ _ _ rfl (by omega) _ rfl
  have hB : Below g w (w1.alloc (.cells #[] 26)) := by rw [hg]; exact below_alloc (Nat.le_refl _) hb _
  have HS := Lib.hid hS1
  have HO := Lib.hid hO
  have HB := Lib.hid hB
  have HG := Lib.hid hg
  clear hS hS1 hO hB hb HF hg
  go_wp2_with fail
  generalize w1.heap.size = n1 at *
  generalize w1.alloc (.cells #[] 26) = w2 at *
  go_loopw [1, 6] (fun i o wr => ∃ (m : Nat) (xs : List Nat), i = .int .i64 (m : Int) ∧ xs.length + m = 6 ∧ Hid (OF (g + 1) wr o xs) ∧ Hid (∀ x ∈ xs, ∃ k : Nat, k < 25 ∧ x = qW k) ∧ Hid (Src wr g v xs.length) ∧ Hid (Below g w wr)) (fun i _ _ => (intOf i).toNat)
  case atStart => exact ⟨6, [], rfl, rfl, HO.out, (fun x hx => by cases hx), HS.out, HB.out⟩
  case round =>
    obtain ⟨m, xs, rfl, hm, hO, hW, hS, hB⟩ := hrel
    by_cases h0 : m = 0
    · subst h0
      go_wp2
      go_ret
      exact ⟨_, xs, rfl, by rw [← HG.out]; exact OF_le' hO.out (by omega), by omega, hW.out, by rw [← HG.out]; exact hB.out⟩
    · have h0' : (0 : Int) < (m : Int) := by omega
      have HP := Lib.hid (s_pick g v bs xs.length 25 wr hS.out (RB_below HV.out (by rw [← HG.out]; exact hB.out)) (by omega) (by decide) (by decide))
      go_wp2_with fail
      refine HP.out.mono ?_
      rintro e' w4 ⟨⟨k, rfl, k0, k1⟩, hS4, hOn⟩
      have HO4 := Lib.hid (OF_only hO.out hOn)
      have HS4 := Lib.hid hS4
      have HB4 := Lib.hid (hB.out.trans (hOn.below (Nat.le_refl _) (Nat.le_of_lt (block_lt_of_cell hS.out.c0))))
      have hg4 : g + 1 ≤ w4.heap.size := block_lt_of_cell hS4.c0
      have HXL : Hid (xs.length ≤ 1048576) := by show _ ≤ _; omega
      obtain ⟨k, rfl⟩ : ∃ n : Nat, k = (n : Int) := ⟨k.toNat, by omega⟩
      have hk25 : k < 25 := by omega
      obtain ⟨q, hq⟩ := Rv.of_fin (qw_fin ⟨k, hk25⟩)
      have r1 : ∀ w, (binOp .quo 26 (.float .f32 (floatOfInt .f32 (k : Int))) (.float .f32 1082130432)).run Try.prog w = .ok (.float .f32 (qW k)) w := run_arith (P := Try.prog) (k := .f32) (op := .quo) (x := floatOfInt .f32 (k : Int)) (y := 1082130432) 26 hq
      have HK := Lib.hid hk25
      clear hS4 hOn HP hO hS hB hq hk25
      generalize hQ : qW k = Q at *
      have HQ := Lib.hid hQ
      clear hQ
      have HOa := Lib.hid (OF_below HO4.out (below_alloc (Nat.le_refl _) (Below.refl _ _) (.cells #[.float .f32 Q] 26)))
      go_wp2_with (refine wpList_appF (g + 1) xs Q rfl rfl rfl rfl HOa.out (cell_top1 _ _ rfl _ _) HXL.out (by rw [World.size_alloc]; omega) ?_; intro u w5 hO5 hB5)
      go_roundw
      case rel =>
        refine ⟨m - 1, xs ++ [Q], ?_, by simp; omega, hO5, ?_, ?_, ?_⟩
        · congr 1; omega
        · show ∀ x ∈ _, _
          intro x hx
          rcases List.mem_append.1 hx with hx | hx
          · exact hW.out x hx
          · rw [List.mem_singleton.1 hx]; exact ⟨k, HK.out, HQ.out.symm⟩
        · rw [List.length_append]
          exact HS4.out.belowB (by omega) (Below.trans (below_alloc hg4 (Below.refl _ _) _) hB5)
        · exact HB4.out.trans ((Below.trans (below_alloc hg4 (Below.refl _ _) _) hB5).mono (by omega))
      case measure => simp [intOf]; omega
theorem run_f32bitsU (x : Nat) (w : World) : (callFunc 108 #[.float .f32 x]).run Try.prog w = .ok (.value (.int .u32 x)) w := by
  rw [run_callFunc_extern (e := Extern.MathFloatBits.float32bits) Try.func108 (by kernel_rfl) (by kernel_rfl) (by kernel_rfl) (by kernel_rfl)]
  rfl
theorem s_l01BitsU (x : Nat) (h : fin .f32 x = true) (w : World) : Calls Try.prog 97 #[.float .f32 x] w fun e w' => e = .returned (.int .i64 (RowKit.wrap64 (x : Int))) ∧ ∃ n, w' = w.drewN n := by
  obtain ⟨q, hq⟩ := Rv.of_fin h
  have ho := order_self (k := .f32) (x := x) hq.notNan
  have r1 := run_f32bitsU x
  clear h hq
  go_enter Try.func97, Try.ntmps97
  go_wp2
  go_ret
  exact ⟨rfl, 0, rfl⟩
theorem s_SameNumberU (x : Nat) (h : fin .f32 x = true) (w : World) : Calls Try.prog 34 #[.float .f32 x, .float .f32 x] w fun e w' => e = .returned (.bool true) ∧ ∃ n, w' = w.drewN n := by
  have HB := Lib.hid (fun W => s_l01BitsU x h W)
  have HS : Hid (∀ W : World, Calls Try.prog 72 #[.float .f32 x, .float .f32 x] W fun e w' => e = .returned (.bool true) ∧ ∃ n, w' = W.drewN n) := by
    show ∀ W : World, _
    intro W
    clear h
    go_enter Try.func72, Try.ntmps72
    go_wp2_with (go_at_call 97; refine (HB.out _).mono ?_; rintro e w' ⟨rfl, n, rfl⟩)
    go_ret
    exact ⟨rfl, _, rfl⟩
  clear h HB
  go_enter Try.func34, Try.ntmps34
  go_wp2_with fail
  refine (HS.out _).mono ?_
  rintro e w' ⟨rfl, n, rfl⟩
  go_wp2
  go_ret
  exact ⟨rfl, _, rfl⟩
end Go.Proofs.Ytmpmnhnobgidoaa
