/- For every input the law FnLists answers true. -/
import Derived.Test.YtmpmnhnobgidoaaVM
namespace Go.Proofs.Ytmpmnhnobgidoaa
set_option linter.unusedSimpArgs false
set_option linter.unusedVariables false
open Go.ChangeShapes Go.WideShapes Go.ChangeAt Go.RowKit Go.Joins Go.Deep Go.Fl Go.Lib

/-- The lists that the law compares, where they are. -/
structure Five (w : World) (a b m x o : Value) (xs ys : List Nat) : Prop where
  a : RF w a xs
  b : RF w b ys
  m : RF w m (mixed xs ys 1073741824 3212836864)
  x : RF w x (wres [xs, ys]).1
  o : RI w o (wres [xs, ys]).2
theorem Five.drewN {w : World} {a b m x o : Value} {xs ys : List Nat} (h : Five w a b m x o xs ys) (n : Nat) : Five (w.drewN n) a b m x o xs ys := ⟨h.a, h.b, h.m, h.x, h.o⟩
theorem RF_at {w : World} {p : Option Addr} {n cap : Nat} {xs : List Nat} (h : RF w (.slice p n cap) xs) {i : Nat} (hi : i < xs.length) : ∃ b off, p = some ⟨b, off, none⟩ ∧ n = xs.length ∧ ∀ X, xs[i]? = some X → w.cell? ⟨b, off + i, none⟩ = some (.float .f32 X) := by
  obtain ⟨q, c, e, -, hc⟩ := h
  cases e
  obtain ⟨b, off, e2, hcell⟩ := hc.resolve_left (by omega)
  exact ⟨b, off, e2, rfl, fun X hX => hcell i _ (by rw [List.getElem?_map, hX]; rfl)⟩
theorem RI_at {w : World} {p : Option Addr} {n cap : Nat} {xs : List Int} (h : RI w (.slice p n cap) xs) {i : Nat} (hi : i < xs.length) : ∃ b off, p = some ⟨b, off, none⟩ ∧ n = xs.length ∧ ∀ X, xs[i]? = some X → w.cell? ⟨b, off + i, none⟩ = some (.int .i64 X) := by
  obtain ⟨q, c, e, -, hc⟩ := h
  cases e
  obtain ⟨b, off, e2, hcell⟩ := hc.resolve_left (by omega)
  exact ⟨b, off, e2, rfl, fun X hX => hcell i _ (by rw [List.getElem?_map, hX]; rfl)⟩
/-- What happens at one place. -/
theorem step_facts {xs ys : List Nat} {ks ls : List Int} (h : Wh xs ks) (g : Wh ys ls) (hl : ys.length = xs.length) (h1 : 1 ≤ xs.length) (h2 : xs.length ≤ 16) {i : Nat} (hi : i < xs.length) :
    ∃ (X Y W XW D P A B C : Nat) (O : Int), (xs[i]? = some X ∧ ys[i]? = some Y ∧ (wres [xs, ys]).1[i]? = some W ∧ (wres [xs, ys]).2[i]? = some O ∧ (mixed xs ys 1073741824 3212836864)[i]? = some C) ∧
      (∀ w, (convert 26 37 (.float .f32 X)).run Try.prog w = .ok (.float .f64 XW) w) ∧
      (∀ w, (convert 26 37 (.float .f32 (fmean xs))).run Try.prog w = .ok (.float .f64 (widen (fmean xs))) w) ∧
      (∀ w, (binOp .add 37 (.float .f64 (ssum xs i)) (.float .f64 XW)).run Try.prog w = .ok (.float .f64 (ssum xs (i + 1))) w) ∧
      (∀ w, (binOp .sub 37 (.float .f64 XW) (.float .f64 (widen (fmean xs)))).run Try.prog w = .ok (.float .f64 D) w) ∧
      (∀ w, (binOp .mul 37 (.float .f64 D) (.float .f64 D)).run Try.prog w = .ok (.float .f64 P) w) ∧
      (∀ w, (binOp .add 37 (.float .f64 (sqAcc xs (widen (fmean xs)) i)) (.float .f64 P)).run Try.prog w = .ok (.float .f64 (sqAcc xs (widen (fmean xs)) (i + 1))) w) ∧
      (∀ w, (binOp .mul 26 (.float .f32 1073741824) (.float .f32 X)).run Try.prog w = .ok (.float .f32 A) w) ∧
      (∀ w, (binOp .sub 26 (.float .f32 A) (.float .f32 Y)).run Try.prog w = .ok (.float .f32 B) w) ∧
      FloatKind.f32.format.order C B = some .eq ∧
      ((FloatKind.f32.format.order X 0 = some .lt ∧ atLeast (xs.take (i + 1)) 0 = atLeast (xs.take i) 0) ∨ ((FloatKind.f32.format.order X 0 = some .gt ∨ FloatKind.f32.format.order X 0 = some .eq) ∧ atLeast (xs.take (i + 1)) 0 = atLeast (xs.take i) 0 + 1)) ∧
      ((O = 0 ∧ W = X ∧ FloatKind.f32.format.order X X = some .eq ∧ (FloatKind.f32.format.order X Y = some .gt ∨ FloatKind.f32.format.order X Y = some .eq)) ∨ (O = 1 ∧ W = Y ∧ FloatKind.f32.format.order Y Y = some .eq ∧ FloatKind.f32.format.order Y X = some .gt)) := by
  obtain ⟨X, Y, W, O, hat, k, l, hr, hs, hc⟩ := At.of h g hl h1 h2 hi
  obtain ⟨μ, m1, m2⟩ := fmean_rv h h1 h2
  have hw := meanQ_wi h.2 (by have := h.len; omega)
  have eX : xs[i] = X := by have := hat.x; rw [List.getElem?_eq_getElem hi] at this; exact Option.some.inj this
  have eX' : xs.getD i 0 = X := by rw [List.getD_eq_getElem?_getD, hat.x]; rfl
  have eY : ys[i]'(by omega) = Y := by have := hat.y; rw [List.getElem?_eq_getElem (by omega)] at this; exact Option.some.inj this
  have s1 := ssum_rv h h2 (i + 1) hi
  rw [ssum_succ xs i hi, eX] at s1
  obtain ⟨k', -, -, hr', kk1, kk2⟩ := h.rv hi
  rw [eX] at hr'
  obtain ⟨d, p, d1, p1, -⟩ := sq_step (k := 0) hr' kk1 kk2 (widen_q m1) hw m2 (by decide +kernel)
  obtain ⟨t, t1, -⟩ := sqAcc_rv h h2 (widen_q m1) hw m2 (by decide +kernel) (i + 1) hi
  obtain ⟨vv, v1, v2, pp, v3⟩ := mixed_rv h g hi (show i < ys.length by omega)
  rw [eX, eY] at v1 v2
  rw [eX] at v3
  have e2 : sqAcc xs (widen (fmean xs)) (i + 1) = fa .add .f64 (sqAcc xs (widen (fmean xs)) i) (fa .mul .f64 (fa .sub .f64 (widen X) (widen (fmean xs))) (fa .sub .f64 (widen X) (widen (fmean xs)))) := by
    show fa .add .f64 _ (fa .mul .f64 (sqD xs _ i) (sqD xs _ i)) = _
    unfold sqD; rw [eX']
  rw [e2] at t1
  have hself : ∀ {Z : Nat} {z : Rat}, Rv .f32 Z z → FloatKind.f32.format.order Z Z = some .eq := fun hz => by
    rw [order_q hz hz, if_neg Rat.lt_irrefl, if_pos rfl]
  refine ⟨X, Y, W, _, _, _, _, _, _, O, ⟨hat.x, hat.y, hat.w, hat.o, hat.m⟩, run_wide (by kernel_rfl) Try.underlying37 hr, run_wide (by kernel_rfl) Try.underlying37 m1, ?_, run_arith _ d1, run_arith _ p1, ?_, run_arith _ v3, run_arith _ v2, ?_, ?_, ?_⟩
  · rw [ssum_succ xs i hi, eX]; exact run_arith _ s1
  · rw [e2]; exact run_arith _ t1
  · rw [order_q v1 v2, if_neg Rat.lt_irrefl, if_pos rfl]
  · have h0 := order_q hr (rv_zero .f32)
    have ht := atLeast_take xs 0 i hi
    rw [eX] at ht
    by_cases q1 : (k : Rat) < 0
    · left
      rw [if_pos q1] at h0
      refine ⟨h0, ?_⟩
      rw [ht, show fge .f32 X 0 = false by rw [fge_q hr (rv_zero .f32)]; simp; grind]
      rfl
    · right
      rw [if_neg q1] at h0
      refine ⟨?_, ?_⟩
      · by_cases q2 : (k : Rat) = 0
        · rw [if_pos q2] at h0; exact .inr h0
        · rw [if_neg q2] at h0; exact .inl h0
      · rw [ht, show fge .f32 X 0 = true by rw [fge_q hr (rv_zero .f32)]; simp; grind]
        rfl
  · rcases hc with ⟨q1, rfl, rfl⟩ | ⟨q1, rfl, rfl⟩
    · right
      have q2 : (k : Rat) < (l : Rat) := Rat.intCast_lt_intCast.2 q1
      refine ⟨rfl, rfl, hself hs, ?_⟩
      rw [order_q hs hr, if_neg (by grind), if_neg (by grind)]
    · left
      have q2 : (l : Rat) ≤ (k : Rat) := Rat.intCast_le_intCast.2 q1
      refine ⟨rfl, rfl, hself hr, ?_⟩
      rw [order_q hr hs, if_neg (by grind)]
      by_cases q3 : (k : Rat) = (l : Rat)
      · rw [if_pos q3]; exact .inr rfl
      · rw [if_neg q3]; exact .inl rfl
set_option maxRecDepth 100000 in
set_option maxHeartbeats 4000000 in
theorem l_FnLists (v u : Value) (bs cs : List Nat) (w : World) (h0 : RBw w v bs) (h1 : RBw w u cs) : Calls Try.prog 3 #[v, u] w fun e w' => e = .returned (.bool true) ∧ Below w.heap.size w w' := by
  have HL := Lib.hid (l_b10Long v u bs cs w h0 h1)
  by_cases hl : bs.length ≤ 1048576 ∧ cs.length ≤ 1048576
  case neg =>
    have hd : (decide (1048576 < bs.length) || decide (1048576 < cs.length)) = true := by simp; omega
    rw [hd] at HL
    clear h0 h1 hl hd
    go_enter Try.func3, Try.ntmps3
    go_wp2_with fail
    refine HL.out.mono ?_
    rintro e w1 ⟨rfl, n, rfl⟩
    go_wp2
    go_ret
    exact ⟨rfl, (by repeat (first | exact Below.refl _ _ | assumption | refine below_drewN ?_ _ | refine below_alloc (Nat.le_refl _) ?_ _ | (refine Below.setCell ?_ (by first | exact Nat.le_refl _ | (simp; done) | (simp; omega) | omega) _) | (refine below_step (Nat.le_refl _) ?_ (by assumption))))⟩
  have hd : (decide (1048576 < bs.length) || decide (1048576 < cs.length)) = false := by simp; omega
  rw [hd] at HL
  have HV := Lib.hid (RB_of h0 hl.1)
  have HU := Lib.hid (RB_of h1 hl.2)
  clear h0 h1 hl hd
  go_enter Try.func3, Try.ntmps3
  go_wp2_with fail
  refine HL.out.mono ?_
  rintro e w0 ⟨rfl, n0, rfl⟩
  go_wp2_with fail
  refine (s_B10Loads v bs _ (RB_below HV.out (by repeat (first | exact Below.refl _ _ | assumption | refine below_drewN ?_ _ | refine below_alloc (Nat.le_refl _) ?_ _ | (refine Below.setCell ?_ (by first | exact Nat.le_refl _ | (simp; done) | (simp; omega) | omega) _) | (refine below_step (Nat.le_refl _) ?_ (by assumption)))))).mono ?_
  rintro e w1 ⟨a, xs, ks, rfl, hO, hW, x1, x2, hb⟩
  have HB1 : Hid (Below w.heap.size w w1) := below_step (Nat.le_refl _) (by repeat (first | exact Below.refl _ _ | assumption | refine below_drewN ?_ _ | refine below_alloc (Nat.le_refl _) ?_ _ | (refine Below.setCell ?_ (by first | exact Nat.le_refl _ | (simp; done) | (simp; omega) | omega) _) | (refine below_step (Nat.le_refl _) ?_ (by assumption)))) hb
  have HA1 := Lib.hid (RF_of_own hO (by omega))
  have HX := Lib.hid (And.intro x1 x2)
  have HW := Lib.hid hW
  obtain ⟨pa, ca, rfl, -, -⟩ := RF_of_own hO (by omega)
  clear hb hO hW x1 x2 HL
  go_wp2_with fail
  have HO2 : Hid (OF w1.heap.size (w1.alloc (.cells #[] 26)) (.slice (some ⟨w1.heap.size, 0, none⟩) 0 0) []) := OF_empty _ _ _ rfl (Nat.le_refl _) _ rfl
  have HB2 : Hid (Below w1.heap.size w1 (w1.alloc (.cells #[] 26))) := below_alloc (Nat.le_refl _) (Below.refl _ _) _
  generalize hw2 : w1.alloc (.cells #[] 26) = w2 at *
  clear hw2
  obtain ⟨z, hz⟩ : ∃ z, z = w1.heap.size := ⟨_, rfl⟩
  rw [← hz] at HO2
  rw [← hz]
  have HZ := Lib.hid hz
  clear hz
  have hx16 := HX.out.2
  go_loopw [6, 33] (fun o i wr => ∃ (k : Nat) (ys : List Nat) (ls : List Int), i = .int .i64 (k : Int) ∧ k ≤ xs.length ∧ ys.length = k ∧ Hid (OF w1.heap.size wr o ys) ∧ Wh ys ls ∧ Hid (Below w1.heap.size w1 wr)) (fun _ i _ => xs.length - (intOf i).toNat)
  case atStart => exact ⟨0, [], [], rfl, Nat.zero_le _, rfl, (by show OF _ _ _ _; rw [← HZ.out]; exact HO2.out), Wh.nil, HB2.out⟩
  case round =>
    obtain ⟨k, ys, ls, rfl, hk, hyl, hO, hWy, hB⟩ := hrel
    by_cases hlt : k < xs.length
    · have hlt' : (k : Int) < (xs.length : Int) := by omega
      have HP := Lib.hid (l_b10At u cs k 17 wr (RB_below (RB_below HU.out HB1.out) hB.out) (by have := HX.out.2; omega) (by decide) (by decide))
      go_wp2_with fail
      refine HP.out.mono ?_
      rintro e' w4 ⟨⟨x, rfl, k0, k1⟩, n4, rfl⟩
      have HXL : Hid (ys.length ≤ 1048576) := by show _ ≤ _; have := HX.out.2; omega
      have HS : Hid (w1.heap.size ≤ wr.heap.size) := hB.out.size
      clear HP
      have hw8 : IntKind.i64.wrap (x - 8) = x - 8 := by rw [IntKind.wrap_i64]; omega
      have HOa : Hid (OF w1.heap.size ((wr.drewN n4).alloc (.cells #[.float .f32 (floatOfInt .f32 (x - 8))] 26)) u6 ys) := OF_below hO.out (below_alloc (Nat.le_refl _) (below_drewN (Below.refl _ _) n4) (.cells #[.float .f32 (floatOfInt .f32 (x - 8))] 26))
      go_wp2_with (refine wpList_appF w1.heap.size ys (floatOfInt .f32 (x - 8)) rfl rfl rfl rfl HOa.out (cell_top1 _ _ rfl _ _) HXL.out (by rw [World.size_alloc]; have := HS.out; simp; omega) ?_; intro u w5 hO5 hB5)
      go_roundw
      case rel =>
        refine ⟨k + 1, ys ++ [fi (x - 8)], ls ++ [x - 8], by go_num, by omega, by simp [hyl], hO5, hWy.snoc (by omega) (by omega), ?_⟩
        exact hB.out.trans (Below.trans (below_alloc (by have := HS.out; simpa using this) (below_drewN (Below.refl _ _) n4) _) hB5)
      case measure => simp [intOf]; omega
    · obtain rfl : k = xs.length := by omega
      have HB3 : Hid (Below w.heap.size w wr) := below_step (Nat.le_refl _) HB1.out hB.out
      have R1 := Lib.hid (RF_below HA1.out hB.out)
      have R2 := Lib.hid (RF_of_own hO.out (by omega))
      have HWY := Lib.hid hWy
      have HYL := Lib.hid hyl
      obtain ⟨pb, cb, hub, -, -⟩ := R2.out
      rw [hyl] at hub
      subst hub
      clear HA1 HO2 HB2 HZ hB hO hWy hyl hlt HV HU HB1
      go_wp2_with fail
      -- the mean
      have HM : Hid (∀ W, RF W (.slice pa xs.length ca) xs → Calls Try.prog 12 #[.slice pa xs.length ca] W fun e w' => e = .returned (.tuple #[.float .f32 (fmean xs), .bool true]) ∧ Below W.heap.size W w') := fun W h => by
        obtain ⟨μ, m1, -⟩ := fmean_rv HW.out HX.out.1 HX.out.2
        refine (i_MeanLoad _ xs W h).mono ?_
        rintro e w' ⟨r, rfl, hr, hb⟩
        rw [HW.out.loads HX.out.1 HX.out.2] at hr ⊢
        simp only [if_true, num, m1.fin, Bool.true_and, m1.cn] at hr ⊢
        rw [cn_is hr m1]
        exact ⟨rfl, hb⟩
      refine (HM.out _ R1.out).mono ?_
      rintro e w2 ⟨rfl, hb⟩
      replace R1 := Lib.hid (RF_below R1.out hb)
      replace R2 := Lib.hid (RF_below R2.out hb)
      replace HB3 := Lib.hid (below_step (Nat.le_refl _) HB3.out hb)
      clear hb HM
      go_wp2_with fail
      -- the spread
      have HM : Hid (∀ W, RF W (.slice pa xs.length ca) xs → Calls Try.prog 13 #[.slice pa xs.length ca] W fun e w' => e = .returned (.tuple #[.float .f32 (spread xs), .bool true]) ∧ Below W.heap.size W w') := fun W h => by
        obtain ⟨σ, m1, -⟩ := spread_rv HW.out HX.out.1 HX.out.2
        refine (i_SpreadOfLoads _ xs W h).mono ?_
        rintro e w' ⟨r, rfl, hr, hb⟩
        rw [HW.out.loads HX.out.1 HX.out.2] at hr ⊢
        simp only [if_true, num, m1.fin, Bool.true_and, m1.cn] at hr ⊢
        rw [cn_is hr m1]
        exact ⟨rfl, hb⟩
      refine (HM.out _ R1.out).mono ?_
      rintro e w3 ⟨rfl, hb⟩
      replace R1 := Lib.hid (RF_below R1.out hb)
      replace R2 := Lib.hid (RF_below R2.out hb)
      replace HB3 := Lib.hid (below_step (Nat.le_refl _) HB3.out hb)
      clear hb HM
      go_wp2_with fail
      -- what is mixed
      have HM : Hid (∀ W, RF W (.slice pa xs.length ca) xs → RF W (.slice pb xs.length cb) ys → Calls Try.prog 14 #[.slice pa xs.length ca, .slice pb xs.length cb, .float .f32 1073741824, .float .f32 3212836864] W fun e w' => ∃ p c, e = .returned (.tuple #[.slice p xs.length c, .bool true]) ∧ RF w' (.slice p xs.length c) (mixed xs ys 1073741824 3212836864) ∧ Below W.heap.size W w') := fun W h h2 => by
        refine (i_MixLoads _ _ xs ys 1073741824 3212836864 W h h2 (by have := HX.out.2; omega)).mono ?_
        rintro e w' ⟨x, zs, rfl, hO, hF, hb⟩
        rw [mixGood_wh HW.out HWY.out HYL.out HX.out.1 HX.out.2] at hF ⊢
        rw [if_pos rfl] at hF
        obtain rfl := hF.is (mixed_fin HW.out HWY.out HYL.out)
        have hml : (mixed xs ys 1073741824 3212836864).length = xs.length := by simp [mixed, HYL.out]
        have hR := RF_of_own hO (by rw [hml]; have := HX.out.2; omega)
        obtain ⟨p, c, rfl, h3⟩ := id hR
        rw [hml] at hR ⊢
        exact ⟨p, c, rfl, hR, hb⟩
      refine (HM.out _ R1.out R2.out).mono ?_
      rintro e w4 ⟨pm, cm, rfl, h3, hb⟩
      have R3 := Lib.hid h3
      replace R1 := Lib.hid (RF_below R1.out hb)
      replace R2 := Lib.hid (RF_below R2.out hb)
      replace HB3 := Lib.hid (below_step (Nat.le_refl _) HB3.out hb)
      clear hb HM h3
      go_wp2_with fail
      -- the worst ones
      have hb5 : Below w4.heap.size w4 (w4.alloc (.cells #[.slice pa xs.length ca, .slice pb xs.length cb] 24)) := below_alloc (Nat.le_refl _) (Below.refl _ _) _
      have HFF : Hid (RFF (w4.alloc (.cells #[.slice pa xs.length ca, .slice pb xs.length cb] 24)) (.slice (some ⟨w4.heap.size, 0, none⟩) 2 2) [.slice pa xs.length ca, .slice pb xs.length cb] [xs, ys]) := by
        refine ⟨⟨some ⟨w4.heap.size, 0, none⟩, 2, rfl, by simp, .inr ⟨_, _, rfl, fun j u hj => ?_⟩⟩, rfl, fun i q1 q2 => ?_⟩
        · match j, hj with
          | 0, hj => rw [cell_of_row _ _ _ _ _ (0, 0) (heap_alloc_new w4 _)]; exact hj
          | 1, hj => rw [cell_of_row _ _ _ _ _ (0, 0) (heap_alloc_new w4 _)]; exact hj
        · match i, q1, q2 with
          | 0, _, _ => exact RF_below R1.out hb5
          | 1, _, _ => exact RF_below R2.out hb5
      replace R1 := Lib.hid (RF_below R1.out hb5)
      replace R2 := Lib.hid (RF_below R2.out hb5)
      replace R3 := Lib.hid (RF_below R3.out hb5)
      replace HB3 := Lib.hid (below_step (Nat.le_refl _) HB3.out hb5)
      clear hb5
      generalize w4.heap.size = z4 at *
      generalize w4.alloc (.cells #[.slice pa xs.length ca, .slice pb xs.length cb] 24) = w5 at *
      refine (i_WorstLoads _ _ _ _ HFF.out).mono ?_
      rintro e w6 ⟨x, o, rfl, q1, q2, -, hb⟩
      have hwr := wres_two HW.out HWY.out HYL.out HX.out.1 HX.out.2
      rw [wGood_two HW.out HWY.out HYL.out HX.out.1 HX.out.2]
      have R4 := Lib.hid (RF_of_own q1 (by rw [hwr.1]; omega))
      have R5 := Lib.hid (RI_of_own q2 (by rw [hwr.2.1]; omega))
      obtain ⟨px, cx, hx, -, -⟩ := R4.out
      obtain ⟨po, co, ho, -, -⟩ := R5.out
      rw [hwr.1] at hx
      rw [hwr.2.1] at ho
      subst hx ho
      replace R1 := Lib.hid (RF_below R1.out hb)
      replace R2 := Lib.hid (RF_below R2.out hb)
      replace R3 := Lib.hid (RF_below R3.out hb)
      replace HB3 := Lib.hid (below_step (Nat.le_refl _) HB3.out hb)
      clear hb q1 q2 hwr HFF
      go_wp2_with fail
      -- the share
      have HM : Hid (∀ W, RF W (.slice pa xs.length ca) xs → Calls Try.prog 16 #[.slice pa xs.length ca, .float .f32 0] W fun e w' => e = .returned (.tuple #[.float .f32 (exceed xs 0), .bool true]) ∧ ∃ n, w' = W.drewN n) := fun W h => by
        obtain ⟨σ, m1, -⟩ := exceed_rv xs 0 HX.out.1 HX.out.2
        refine (i_ExceedOf _ xs 0 W h).mono ?_
        rintro e w' ⟨⟨r, rfl, hr⟩, hb⟩
        rw [HW.out.loads HX.out.1 HX.out.2] at hr ⊢
        simp only [if_true, m1.cn] at hr ⊢
        rw [cn_is hr m1]
        exact ⟨rfl, hb⟩
      refine (HM.out _ R1.out).mono ?_
      rintro e w7 ⟨rfl, n7, rfl⟩
      clear HM
      have HF : Hid (Five w6 (.slice pa xs.length ca) (.slice pb xs.length cb) (.slice pm xs.length cm) (.slice px xs.length cx) (.slice po xs.length co) xs ys) := ⟨R1.out, R2.out, R3.out, R4.out, R5.out⟩
      clear R1 R2 R3 R4 R5
      have hsp : (FloatKind.f32.format.order (spread xs) 0 == some .lt) = false := by
        obtain ⟨σ, m1, m2, -⟩ := spread_rv HW.out HX.out.1 HX.out.2
        have := flt_q m1 (rv_zero .f32)
        rw [show decide (σ < 0) = false by simp; grind] at this
        exact this
      have hne : ((xs.length : Int) != (xs.length : Int)) = false := by simp
      go_wp2_with fail
      go_loopw [19, 20, 21, 119] (fun s q c i wr => ∃ k n : Nat, k ≤ xs.length ∧ i = .int .i64 (k : Int) ∧ s = .float .f64 (ssum xs k) ∧ q = .float .f64 (sqAcc xs (widen (fmean xs)) k) ∧ c = .int .i64 ((atLeast (xs.take k) 0 : Nat) : Int) ∧ wr = w6.drewN n) (fun _ _ _ i _ => xs.length - (intOf i).toNat)
      case atStart => exact ⟨0, _, Nat.zero_le _, rfl, rfl, rfl, rfl, rfl⟩
      case round =>
        obtain ⟨k, n, hk, rfl, rfl, rfl, rfl, rfl⟩ := hrel
        by_cases hlt : k < xs.length
        · obtain ⟨X, Y, W, XW, D, P, A, B, C, O, ⟨e1, e2, e3, e4, e5⟩, r1, r2, r3, r4, r5, r6, r7, r8, r9, r10, r11⟩ := step_facts HW.out HWY.out HYL.out HX.out.1 HX.out.2 hlt
          have hwr := wres_two HW.out HWY.out HYL.out HX.out.1 HX.out.2
          obtain ⟨b1, o1, rfl, -, c1⟩ := RF_at HF.out.a hlt
          obtain ⟨b2, o2, rfl, -, c2⟩ := RF_at HF.out.b (show k < ys.length by rw [HYL.out]; exact hlt)
          obtain ⟨b3, o3, rfl, -, c3⟩ := RF_at HF.out.m (show k < (mixed xs ys 1073741824 3212836864).length by simp [mixed, HYL.out]; exact hlt)
          obtain ⟨b4, o4, rfl, -, c4⟩ := RF_at HF.out.x (show k < _ by rw [hwr.1]; exact hlt)
          obtain ⟨b5, o5, rfl, -, c5⟩ := RI_at HF.out.o (show k < _ by rw [hwr.2.1]; exact hlt)
          replace c1 := c1 X e1
          replace c2 := c2 Y e2
          replace c3 := c3 C e5
          replace c4 := c4 W e3
          replace c5 := c5 O e4
          have hkk : (k : Int) < (xs.length : Int) := by omega
          have hal : atLeast (xs.take k) 0 ≤ 16 := by have := atLeast_le xs 0 k; omega
          clear e1 e2 e3 e4 e5 hwr
          have HQ : Hid (k + 1 ≤ xs.length) := hlt
          clear hlt hk
          rcases r10 with ⟨q1, q2⟩ | ⟨q1 | q1, q2⟩ <;> rcases r11 with ⟨rfl, rfl, q3, q4 | q4⟩ | ⟨rfl, rfl, q3, q4⟩
          all_goals
            have HC : Hid (((atLeast (xs.take (k + 1)) 0 : Nat) : Int) = _) := congrArg (fun n : Nat => (n : Int)) q2
            clear q2
            go_wp2_with fail
            go_quiet (fail)
            go_wp2_with fail
            go_quiet (fail)
            go_wp2_with fail
            go_quiet (fail)
            go_wp2_with fail
            go_roundw
            case rel => exact ⟨k + 1, _, HQ.out, by go_num, rfl, rfl, by rw [HC.out]; (try push_cast); (try go_num), rfl⟩
            case measure => have := HQ.out; simp [intOf]; omega
        · obtain rfl : k = xs.length := by omega
          obtain ⟨a1, t1, t2⟩ := last1 HW.out HX.out.1 HX.out.2
          obtain ⟨a2, a3, t3, t4, t5⟩ := last2 HW.out HX.out.1 HX.out.2
          obtain ⟨a4, t6, t7, t8⟩ := last3 xs 0 HX.out.1 HX.out.2
          obtain ⟨μ, m1, -⟩ := fmean_rv HW.out HX.out.1 HX.out.2
          obtain ⟨σ, m2, -⟩ := spread_rv HW.out HX.out.1 HX.out.2
          obtain ⟨χ, m3, -⟩ := exceed_rv xs 0 HX.out.1 HX.out.2
          obtain ⟨⟨ga, gb, gc, g1, g2, g3, g4⟩, ⟨_, g5⟩, ⟨_, g6⟩, g7⟩ := t2
          obtain ⟨⟨ha, hb, hc, h1, h2, h3, h4⟩, ⟨_, h5⟩, ⟨_, h6⟩, h7⟩ := t5
          obtain ⟨ia, ib, ic, i1, i2, i3, i4⟩ := t7
          have B1 := Lib.hid (fun W => l_b10Gap _ _ _ _ _ g1 g2 g3 g4 W)
          have B2 := Lib.hid (fun W => l_b10Gap _ _ _ _ _ h1 h2 h3 h4 W)
          have B3 := Lib.hid (fun W => l_b10Gap _ _ _ _ _ i1 i2 i3 i4 W)
          have r1 := run_wide (P := Try.prog) (src := 26) (dst := 37) (by kernel_rfl) Try.underlying37 m1
          have r2 := run_wide (P := Try.prog) (src := 26) (dst := 37) (by kernel_rfl) Try.underlying37 m2
          have r3 := run_wide (P := Try.prog) (src := 26) (dst := 37) (by kernel_rfl) Try.underlying37 m3
          have r4 := run_arith (P := Try.prog) 37 t1
          have r5 := run_arith (P := Try.prog) 37 g5
          have r6 := run_arith (P := Try.prog) 37 g6
          have r7 := run_arith (P := Try.prog) 37 t3
          have r8 := run_arith (P := Try.prog) 37 t4
          have r9 := run_arith (P := Try.prog) 37 h5
          have r10 := run_arith (P := Try.prog) 37 h6
          have r11 := run_arith (P := Try.prog) 37 t6
          rw [List.take_length]
          clear t1 t3 t4 t6 m1 m2 m3 g1 g2 g3 g4 g5 g6 h1 h2 h3 h4 h5 h6 i1 i2 i3 i4 hlt hk HF hsp
          unfold thr at g7 h7
          have HBZ : Hid (∀ n, Below w.heap.size w (w6.drewN n)) := fun n => below_drewN HB3.out n
          go_wp2_with fail
          generalize fa .add .f64 4607182418800017408 (floatOfInt .f64 (xs.length : Int)) = Z1 at *
          generalize fa .mul .f64 4562254508917369340 Z1 = Z2 at *
          generalize fa .mul .f64 (widen (fmean xs)) (floatOfInt .f64 (xs.length : Int)) = Z3 at *
          generalize fa .mul .f64 (widen (spread xs)) (widen (spread xs)) = Z4 at *
          generalize fa .mul .f64 Z4 (floatOfInt .f64 (xs.length : Int)) = Z5 at *
          generalize fa .mul .f64 (widen (exceed xs 0)) (floatOfInt .f64 (xs.length : Int)) = Z6 at *
          refine (B1.out _).mono ?_
          rintro e w8 ⟨rfl, n8, rfl⟩
          go_wp2_with fail
          refine (B2.out _).mono ?_
          rintro e w9 ⟨rfl, n9, rfl⟩
          go_wp2_with fail
          refine (B3.out _).mono ?_
          rintro e w10 ⟨rfl, n10, rfl⟩
          go_wp2
          go_ret
          exact ⟨rfl, by repeat (first | exact HBZ.out _ | refine below_drewN ?_ _)⟩
set_option maxRecDepth 100000 in
theorem FnLists_lifted (os : Os) (started : os.Started) (H : Type) (enc : TypeId × Value → H) :
    ReturnsInHanded {} Try.checked os 3 .any (Rows.fnListsSpec.pre6 enc Try.prog Try.f3 Rows.fnListsRow.domain false) (Rows.fnListsSpec.post enc Try.prog Try.f3 false true false false) := by
  refine returnsInHanded_of_change_sized (C := Try.checked) Try.own started (by as_aux_lemma => kernel_rfl) Try.func3
    (ChangeSpec.witness6 (enc := enc) (C := Try.checked) false ⟨#[], #[.slice none 0 0, .slice none 0 0], []⟩ 8 (by as_aux_lemma => kernel_rfl) (by as_aux_lemma => kernel_rfl) (by as_aux_lemma => kernel_rfl) (by as_aux_lemma => kernel_rfl)) ?_
  intro W base args ds gs before hval0 hW hcnd0 hsz0 _
  have hval : ∀ (j : Nat) t v, Try.f3.params[j]? = some t → args[j]? = some v → Value.okWide Try.prog W .any base t v := hval0
  have hsz : (DataW.weightsEach Try.prog (Try.f3.params.toList ++ Rows.fnListsSpec.plain.varTypes Try.prog) (ds ++ gs)).all (· ≤ reachBytes) = true := hsz0
  have hW' := hW
  obtain ⟨p, q, hA0, hV, rfl, hfz, hnd⟩ := hW
  have hA : DataW.TrodAll enc Try.prog W 0 (fun _ => true) true Try.f3.params.toList args.toList ds p := hA0
  rw [Try.params3] at hA hval hsz
  obtain ⟨rfl, rfl⟩ := trodVars_none hV
  obtain ⟨v0, vs0, d0, ds0, p0, q0, ha0, rfl, rfl, h0, r0⟩ := trodAll_cons hA
  obtain ⟨v1, vs1, d1, ds1, p1, q1, rfl, rfl, rfl, h1, r1⟩ := trodAll_cons r0
  obtain ⟨rfl, rfl, rfl⟩ := trodAll_nil r1
  obtain rfl : args = #[v0, v1] := by apply Array.ext'; exact ha0
  obtain ⟨v, R_v⟩ := open_RB (hval 0 _ v0 rfl rfl) h0
  obtain ⟨u, R_u⟩ := open_RB (hval 1 _ v1 rfl rfl) h1
  refine (l_FnLists v0 v1 v u W R_v R_u).mono fun e W' ⟨he, hb⟩ => ?_
  subst he
  exact ⟨_, rfl, post_law Try.laidOut (by as_aux_lemma => kernel_rfl) rfl Try.underlying4 hW' rfl ⟨rfl, rfl, rfl⟩ hb⟩

theorem FnLists_holds : Rows.FnListsSaid :=
  OpenClaim.holds_of_wide 3 Try.f3 rfl rfl rfl rfl rfl rfl rfl ⟨rfl, rfl, rfl, rfl, rfl⟩ rfl rfl rfl rfl rfl (by as_aux_lemma => kernel_rfl) Try.func3 (by as_aux_lemma => kernel_rfl)
    (of_decide_eq_true (by as_aux_lemma => kernel_rfl)) (by unfold Func.isWrapper; rw [if_neg (of_decide_eq_false (by as_aux_lemma => kernel_rfl))]; exact ⟨rfl, rfl⟩)
    (fun os started H enc _ => FnLists_lifted os started H enc)
end Go.Proofs.Ytmpmnhnobgidoaa
