/- For every input the law FnDamage answers true. -/
import Derived.Test.YtmpmnhnobgidoaaVJ
import Derived.Test.YtmpmnhnobgidoaaYD
namespace Go.Proofs.Ytmpmnhnobgidoaa
set_option linter.unusedSimpArgs false
set_option linter.unusedVariables false
open Go.ChangeShapes Go.WideShapes Go.ChangeAt Go.RowKit Go.Joins Go.Deep Go.Fl Go.Lib

theorem RC_take {w : World} {b o n cap c2 : Nat} {cs : List Cyc} (h : RC w (.slice (some ⟨b, o, none⟩) n cap) cs) (hn : 1 ≤ cs.length) : RC w (.slice (some ⟨b, o, none⟩) 1 c2) (cs.take 1) := by
  obtain ⟨p, c, e, hm, hc⟩ := h
  obtain ⟨b', o', e2, hcell⟩ := hc.resolve_left (by omega)
  cases e; cases e2
  have hl : (cs.take 1).length = 1 := by simp; omega
  refine ⟨_, _, by rw [hl], by omega, .inr ⟨_, _, rfl, fun j u hj => hcell j u ?_⟩⟩
  have e3 := cycCells_append (cs.take 1) (cs.drop 1)
  rw [List.take_append_drop] at e3
  rw [e3, List.getElem?_append_left (by
    apply Nat.lt_of_not_le; intro hle
    rw [List.getElem?_eq_none hle] at hj; cases hj)]
  exact hj
theorem RC_drop {w : World} {b o n cap c2 : Nat} {cs : List Cyc} (h : RC w (.slice (some ⟨b, o, none⟩) n cap) cs) (hn : 1 ≤ cs.length) : RC w (.slice (some ⟨b, o + 3, none⟩) (cs.drop 1).length c2) (cs.drop 1) := by
  obtain ⟨p, c, e, hm, hc⟩ := h
  obtain ⟨b', o', e2, hcell⟩ := hc.resolve_left (by omega)
  cases e; cases e2
  refine ⟨_, _, rfl, by simp; omega, .inr ⟨_, _, rfl, fun j u hj => ?_⟩⟩
  have e3 := cycCells_append (cs.take 1) (cs.drop 1)
  rw [List.take_append_drop] at e3
  have hl : (cycCells (cs.take 1)).length = 3 := by rw [cycCells_length]; simp; omega
  have := hcell (3 + j) u (by rw [e3, List.getElem?_append_right (by omega), hl, Nat.add_sub_cancel_left]; exact hj)
  rw [Nat.add_assoc]; exact this
theorem RC_nilv (w : World) : RC w (.slice none 0 0) [] := ⟨_, _, rfl, by simp, .inl rfl⟩
set_option maxRecDepth 100000 in
set_option maxHeartbeats 16000000 in
theorem l_FnDamage (v u : Value) (bs cs : List Nat) (w : World) (h0 : RBw w v bs) (h1 : RBw w u cs) : Calls Try.prog 4 #[v, u] w fun e w' => e = .returned (.bool true) ∧ Below w.heap.size w w' := by
  have HL := Lib.hid (l_b10Long v u bs cs w h0 h1)
  by_cases hl : bs.length ≤ 1048576 ∧ cs.length ≤ 1048576
  case neg =>
    have hd : (decide (1048576 < bs.length) || decide (1048576 < cs.length)) = true := by simp; omega
    rw [hd] at HL
    clear h0 h1 hl hd
    go_enter Try.func4, Try.ntmps4
    go_wp2_with fail
    refine HL.out.mono ?_
    rintro e w1 ⟨rfl, n, rfl⟩
    go_wp2
    go_ret
    exact ⟨rfl, (by repeat (first | exact Below.refl _ _ | assumption | refine below_drewN ?_ _ | refine below_alloc (Nat.le_refl _) ?_ _ | (refine Below.setCell ?_ (by first | exact Nat.le_refl _ | (simp; done) | (simp; omega) | omega) _) | (refine below_step (Nat.le_refl _) ?_ (by assumption))))⟩
  have hd : (decide (1048576 < bs.length) || decide (1048576 < cs.length)) = false := by simp; omega
  rw [hd] at HL
  have HV := Lib.hid (RB_of h0 hl.1)
  have HU := Lib.hid (RB_of h1 hl.2)
  clear h0 h1 hl hd
  go_enter Try.func4, Try.ntmps4
  go_wp2_with fail
  refine HL.out.mono ?_
  rintro e w0 ⟨rfl, n0, rfl⟩
  go_wp2_with fail
  refine (s_B10Loads v bs _ (RB_below HV.out (by repeat (first | exact Below.refl _ _ | assumption | refine below_drewN ?_ _ | refine below_alloc (Nat.le_refl _) ?_ _ | (refine Below.setCell ?_ (by first | exact Nat.le_refl _ | (simp; done) | (simp; omega) | omega) _) | (refine below_step (Nat.le_refl _) ?_ (by assumption)))))).mono ?_
  rintro e w1 ⟨a, xs, ks, rfl, hO, hW, x1, x2, hb⟩
  have HB1 : Hid (Below w.heap.size w w1) := below_step (Nat.le_refl _) (by repeat (first | exact Below.refl _ _ | assumption | refine below_drewN ?_ _ | refine below_alloc (Nat.le_refl _) ?_ _ | (refine Below.setCell ?_ (by first | exact Nat.le_refl _ | (simp; done) | (simp; omega) | omega) _) | (refine below_step (Nat.le_refl _) ?_ (by assumption)))) hb
  have HX := Lib.hid (And.intro x1 x2)
  have HW := Lib.hid hW
  have HA1 := Lib.hid (RF_of_own hO (by omega))
  have HLO := Lib.hid (hW.loads x1 x2)
  have HCW := Lib.hid (cycles_W hW.mem)
  have HCL : Hid ((cycles xs).length ≤ 16) := by show _ ≤ _; have := cycles_len hW.fin; omega
  clear hb hO hW x1 x2 HL
  go_wp2_with fail
  refine (s_CyclesOf _ xs _ HA1.out).mono ?_
  rintro e w2 ⟨q, rfl, hO, hb⟩
  have HB2 : Hid (Below w.heap.size w w2) := below_step (Nat.le_refl _) HB1.out hb
  rw [HLO.out]
  replace hO : OC w1.heap.size w2 q (cycles xs) := by rw [HLO.out, if_pos rfl] at hO; exact hO
  have hRC := RC_of_own hO (by have := HCL.out; omega)
  clear HLO HA1 HB1 hb
  generalize cycles xs = cc at *
  by_cases hz : cc = []
  · subst hz
    obtain ⟨p, cap, rfl, -, -⟩ := hRC
    clear hO
    go_wp2
    go_ret
    exact ⟨rfl, HB2.out⟩
  have hn1 : 1 ≤ cc.length := by
    cases cc with
    | nil => exact absurd rfl hz
    | cons a b => simp
  obtain ⟨g, cap, rfl, hcap⟩ : ∃ g cap, q = .slice (some ⟨g, 0, none⟩) cc.length cap ∧ cc.length ≤ cap := by
    rcases hO.2 with ⟨-, h⟩ | ⟨g, cap, cur, h1, -, -, h3, -⟩
    · omega
    · exact ⟨g, cap, h1, h3⟩
  have HRC := Lib.hid hRC
  have HN1 := Lib.hid hn1
  have hcap' : (cc.length : Int) ≤ (cap : Int) := by omega
  have hn1' : (1 : Int) ≤ (cc.length : Int) := by omega
  have hn1c : (1 : Int) ≤ (cap : Int) := by omega
  have hne : ((cc.length : Int) == 0) = false := by simp; omega
  clear hO hRC hz
  have HD : Hid (∀ W v' cs' s j (p : Int), RC W v' cs' → (∀ c ∈ cs', CW2 c) → cs'.length ≤ 16 → isStr s j → 1 ≤ p → p ≤ 4 →
      Calls Try.prog 19 #[v', .float .f32 s, .int .i64 p] W fun e w' => e = .returned (.tuple #[.float .f32 (damSum cs' s p.toNat cs'.length), .bool true]) ∧ Below W.heap.size W w') := by
    intro W v' cs' s j p h1 h2 h3 h4 h5 h6
    have hr := dam_full h4 (p := p.toNat) (by omega) h2 h3
    refine (i_DamageOf v' cs' s p W h1).mono ?_
    rintro e w' ⟨r, rfl, hr2, hb⟩
    have hg : damGood cs' s p = true := by
      unfold damGood inside
      rw [areCyc_W h2 (by omega), show above s = true by rcases h4 with ⟨rfl, -⟩ | ⟨rfl, -⟩ <;> decide]
      simp; omega
    rw [hg] at hr2 ⊢
    simp only [if_true, num, hr.fin, Bool.true_and, hr.cn] at hr2 ⊢
    rw [cn_is hr2 hr]
    exact ⟨rfl, hb⟩
  have hsw : cc.length ≤ 16 := HCL.out
  go_wp2_with fail
  refine (l_b10At u cs 0 4 w2 (RB_below HU.out HB2.out) (by decide) (by decide) (by decide)).mono ?_
  rintro e w3 ⟨⟨x, rfl, k0, k1⟩, n3, rfl⟩
  have hwx : IntKind.i64.wrap (1 + x) = 1 + x := by rw [IntKind.wrap_i64]; omega
  have HP := Lib.hid (show 1 ≤ 1 + x ∧ 1 + x ≤ 4 by omega)
  clear k0 k1
  go_wp2_with fail
  refine (HD.out _ _ cc 1090519040 (-3) (1 + x) (Sl.drewN HRC.out n3) HCW.out HCL.out (.inl ⟨rfl, rfl⟩) HP.out.1 HP.out.2).mono ?_
  rintro e w4 ⟨rfl, hb⟩
  have HB4 := Lib.hid (below_step (Nat.le_refl _) (below_drewN HB2.out n3) hb)
  replace HRC := Lib.hid (RC_below HRC.out (below_step (Nat.le_refl _) (below_drewN (Below.refl _ _) n3) hb))
  clear hb HB2
  go_wp2_with fail
  have HCW1 : Hid (∀ c ∈ cc.take 1, CW2 c) := fun c hc => HCW.out c (List.mem_of_mem_take hc)
  have HCW2 : Hid (∀ c ∈ cc.drop 1, CW2 c) := fun c hc => HCW.out c (List.mem_of_mem_drop hc)
  have HCL1 : Hid ((cc.take 1).length ≤ 16) := by show _ ≤ _; simp; omega
  have HCL2 : Hid ((cc.drop 1).length ≤ 16) := by show _ ≤ _; simp; omega
  refine (HD.out _ _ (cc.take 1) 1090519040 (-3) (1 + x) (RC_take HRC.out HN1.out) HCW1.out HCL1.out (.inl ⟨rfl, rfl⟩) HP.out.1 HP.out.2).mono ?_
  rintro e w5 ⟨rfl, hb⟩
  have HB5 := Lib.hid (below_step (Nat.le_refl _) HB4.out hb)
  replace HRC := Lib.hid (RC_below HRC.out hb)
  clear hb HB4
  have hcl : (cc.drop 1).length = cc.length - 1 := by simp
  generalize hF1 : damSum cc 1090519040 (1 + x).toNat cc.length = F1 at *
  generalize hF2 : damSum (cc.take 1) 1090519040 (1 + x).toNat (cc.take 1).length = F2 at *
  obtain ⟨⟨f1, v1, v1n⟩, ⟨f2, v2⟩, ⟨f3, v3⟩, ⟨f4, v4⟩, hT⟩ := first_dam (p := (1 + x).toNat) (by have := HP.out; omega) (by have := HP.out; omega) HCW.out HCL.out
  rw [hF1] at v1 hT
  rw [hF2] at v2 v4 hT
  generalize hF3 : damSum (cc.drop 1) 1090519040 (1 + x).toNat (cc.drop 1).length = F3 at *
  have HF3 := Lib.hid hF3
  have r1 := run_wide (P := Try.prog) (src := 26) (dst := 37) (by kernel_rfl) Try.underlying37 v1
  have r2 := run_wide (P := Try.prog) (src := 26) (dst := 37) (by kernel_rfl) Try.underlying37 v2
  have r3 := run_wide (P := Try.prog) (src := 26) (dst := 37) (by kernel_rfl) Try.underlying37 v3
  have r4 := run_arith (P := Try.prog) 37 v4
  obtain ⟨⟨ga, gb, gc, g1, g2, g3, g4⟩, ⟨_, g5⟩, ⟨_, g6⟩, g7⟩ := hT
  have r5 := run_arith (P := Try.prog) 37 g5
  have r6 := run_arith (P := Try.prog) 37 g6
  have B1 := Lib.hid (fun W => l_b10Gap _ _ _ _ _ g1 g2 g3 g4 W)
  have hng : (FloatKind.f32.format.order F1 0 == some .lt) = false := by
    have := flt_q v1 (rv_zero .f32)
    rw [show decide (f1 < 0) = false by simp; grind] at this
    exact this
  have h00 : FloatKind.f32.format.order 0 0 = some .eq := by decide
  unfold thr at g7
  clear v1 v1n v2 v3 v4 g1 g2 g3 g4 g5 g6 hF1 hF2 hF3
  generalize fa .add .f64 (widen F2) (widen F3) = Z1 at *
  generalize fa .add .f64 4607182418800017408 (widen F1) = Z2 at *
  generalize fa .mul .f64 4562254508917369340 Z2 = Z3 at *
  generalize gap (widen F1) Z1 = Z4 at *
  go_wp2_with fail
  · obtain rfl : cap = 1 := by omega
    refine (HD.out _ _ (cc.drop 1) 1090519040 (-3) (1 + x) (by first | (have h := RC_drop (c2 := 1 - 1) HRC.out HN1.out; rw [hcl] at h; exact h) | exact ⟨_, _, by rw [hcl], by omega, .inl (by omega)⟩) HCW2.out HCL2.out (.inl ⟨rfl, rfl⟩) HP.out.1 HP.out.2).mono ?_
    rintro e w6 ⟨rfl, hb⟩
    rw [HF3.out]
    have HB6 := Lib.hid (below_step (Nat.le_refl _) HB5.out hb)
    replace HRC := Lib.hid (RC_below HRC.out hb)
    clear hb HB5 HCW1 HCW2 HCL1 HCL2
    go_wp2_with fail
    refine (HD.out _ _ [] 1090519040 (-3) (1 + x) (RC_nilv _) (fun c hc => by cases hc) (by simp) (.inl ⟨rfl, rfl⟩) HP.out.1 HP.out.2).mono ?_
    rintro e w7 ⟨rfl, hb⟩
    rw [show damSum [] 1090519040 (1 + x).toNat ([] : List Cyc).length = 0 from rfl]
    have HB7 := Lib.hid (below_step (Nat.le_refl _) HB6.out hb)
    replace HRC := Lib.hid (RC_below HRC.out hb)
    clear hb HB6
    go_wp2_with fail
    refine (B1.out _).mono ?_
    rintro e w8 ⟨rfl, n8, rfl⟩
    go_wp2_with fail
    refine (l_b10At u cs 1 3 _ (RB_below HU.out (below_drewN HB7.out n8)) (by decide) (by decide) (by decide)).mono ?_
    rintro e w9 ⟨⟨y, rfl, y0, y1⟩, n9, rfl⟩
    clear g7 hng h00 r1 r2 r3 r4 r5 r6 B1 hcl
    go_wp2_with fail
    refine (l_b10At u cs 2 8 _ (RB_below HU.out (below_drewN HB7.out (n8 + n9))) (by decide) (by decide) (by decide)).mono ?_
    rintro e w10 ⟨⟨z, rfl, z0, z1⟩, n10, rfl⟩
    have HRC2 : Hid (∀ k, RC (w7.drewN k) (.slice (some ⟨g, 0, none⟩) cc.length 1) cc) := fun k => Sl.drewN HRC.out k
    have HB72 : Hid (∀ k, Below w.heap.size w (w7.drewN k)) := fun k => below_drewN HB7.out k
    have hwz : IntKind.i64.wrap (1 + z) = 1 + z := by rw [IntKind.wrap_i64]; omega
    obtain ⟨C, hC, c0, c1⟩ := cnt_rv z0 z1
    rw [Int.add_comm] at hC
    have rc := run_arith (P := Try.prog) 26 hC
    have HEQ : Hid (∀ (n : Nat) (c : Nat) (W : World), n ≤ 2 → c = fa .quo .f32 (floatOfInt .f32 (1 + z)) 1073741824 → RC W (.slice (some ⟨g, 0, none⟩) cc.length 1) cc → Calls Try.prog 20 #[.slice (some ⟨g, 0, none⟩) cc.length 1, .float .f32 c, .int .i64 (n : Int)] W fun e w' => e = .returned (.tuple #[.float .f32 (eqRange cc c n), .bool true]) ∧ Below W.heap.size W w') := by
      intro n c W hn hc h1
      rw [← hc] at hC
      obtain ⟨⟨E, hE⟩, -⟩ := last_dam hn HCW.out HCL.out hC c0 c1
      refine (i_EqualRange _ cc c (n : Int) W h1).mono ?_
      rintro e w' ⟨r, rfl, hr2, hb⟩
      have hg : eqGood cc c (n : Int) = true := by
        unfold eqGood inside
        rw [areCyc_W HCW.out (by have := HCL.out; omega), above_rv hC (by grind)]
        simp; omega
      rw [hg, show ((n : Nat) : Int).toNat = n from rfl] at hr2 ⊢
      simp only [if_true, num, hE.fin, Bool.true_and, hE.cn] at hr2 ⊢
      rw [cn_is hr2 hE]
      exact ⟨rfl, hb⟩
    have HLD : Hid (∀ n : Nat, n ≤ 2 → _) := fun n hn => last_dam hn HCW.out HCL.out hC c0 c1
    generalize hCN : fa .quo .f32 (floatOfInt .f32 (1 + z)) 1073741824 = CN at *
    have HCN := Lib.hid hCN
    have HCV := Lib.hid hC
    clear hCN hC z0 z1 hwx
    obtain ⟨n, rfl⟩ : ∃ n : Nat, y = (n : Int) := ⟨y.toNat, by omega⟩
    have hn2 : n ≤ 2 := by omega
    have HN2 := Lib.hid hn2
    clear y0 y1
    obtain ⟨M, hM⟩ : ∃ M : Nat, M = 2 ^ n := ⟨_, rfl⟩
    have hM4 : 1 ≤ M ∧ M ≤ 4 := by
      rw [hM]
      exact ⟨Nat.one_le_two_pow, Nat.pow_le_pow_right (by decide) hn2⟩
    have hs1 : IntKind.i64.wrap ((2 : Int) ^ n) = (M : Int) := by
      have e : (2 : Int) ^ n = ((2 ^ n : Nat) : Int) := by push_cast; rfl
      rw [e, ← hM, IntKind.wrap_i64]; omega
    have hs2 : IntKind.i64.wrap (1 * (2 : Int) ^ n) = (M : Int) := by rw [Int.one_mul]; exact hs1
    have hs0 : ¬ (n : Int) < 0 := by omega
    have hs3 : (n : Int) ≤ 64 := by omega
    have hs4 : (0 : Int) ≤ (n : Int) := by omega
    have hs5 : IntKind.u64.wrap (n : Int) = (n : Int) := by rw [IntKind.wrap_u64]; omega
    obtain ⟨⟨e1, v1⟩, ⟨e2, v2⟩, vX, ⟨e3, v3⟩, hT⟩ := HLD.out n hn2
    rw [← hM] at v2 vX v3 hT
    have HX2 := Lib.hid vX
    obtain ⟨⟨ga, gb, gc, g1, g2, g3, g4⟩, ⟨_, g5⟩, ⟨_, g6⟩, g7⟩ := hT
    have r1 := run_wide (P := Try.prog) (src := 26) (dst := 37) (by kernel_rfl) Try.underlying37 v1
    have r2 := run_wide (P := Try.prog) (src := 26) (dst := 37) (by kernel_rfl) Try.underlying37 v2
    have r3 := run_wide (P := Try.prog) (src := 26) (dst := 37) (by kernel_rfl) Try.underlying37 HCV.out
    have r4 := run_arith (P := Try.prog) 37 v3
    have r5 := run_arith (P := Try.prog) 37 g5
    have r6 := run_arith (P := Try.prog) 37 g6
    have B2 := Lib.hid (fun W => l_b10Gap _ _ _ _ _ g1 g2 g3 g4 W)
    have HDM : Hid (∀ W, RC W (.slice (some ⟨g, 0, none⟩) cc.length 1) cc → Calls Try.prog 19 #[.slice (some ⟨g, 0, none⟩) cc.length 1, .float .f32 1065353216, .int .i64 (M : Int)] W fun e w' => e = .returned (.tuple #[.float .f32 (damSum cc 1065353216 M cc.length), .bool true]) ∧ Below W.heap.size W w') :=
      fun W h => HD.out W (.slice (some ⟨g, 0, none⟩) cc.length 1) cc 1065353216 0 (M : Int) h HCW.out HCL.out (.inr ⟨rfl, rfl⟩) (by omega) (by omega)
    have HMM := Lib.hid hM4
    unfold thr at g7
    clear v1 v2 vX v3 g1 g2 g3 g4 g5 g6 hM hM4 hn2
    generalize damSum cc 1065353216 M cc.length = DM at *
    go_wp2_with fail
    refine (HEQ.out n CN _ HN2.out rfl (HRC2.out _)).mono ?_
    rintro e w11 ⟨rfl, hb⟩
    have HB11 := Lib.hid (below_step (Nat.le_refl _) (HB72.out _) hb)
    replace HRC := Lib.hid (RC_below (HRC2.out _) hb)
    clear hb HB7 HRC2 HB72
    generalize eqRange cc CN n = EQ at *
    go_wp2_with fail
    refine (HDM.out _ HRC.out).mono ?_
    rintro e w12 ⟨rfl, hb⟩
    have HB12 := Lib.hid (below_step (Nat.le_refl _) HB11.out hb)
    clear hb HB11 HRC HD HEQ HLD HDM
    generalize widen EQ = WE at *
    go_wp2_with fail
    have hM9 : M ≤ 4 := HMM.out.2
    go_loopw [23, 24] (fun t k wr => ∃ j n : Nat, j ≤ M ∧ k = .int .i64 (j : Int) ∧ t = .float .f64 (xpow WE j) ∧ wr = w12.drewN n) (fun _ k _ => M - (intOf k).toNat)
    case atStart => exact ⟨0, 0, Nat.zero_le _, rfl, rfl, rfl⟩
    case round =>
      obtain ⟨j, n', hj, rfl, rfl, rfl⟩ := hrel
      by_cases hlt : j < M
      · obtain ⟨X, hX⟩ := HX2.out (j + 1) hlt
        have rx : ∀ w, (binOp .mul 37 (.float .f64 (xpow WE j)) (.float .f64 WE)).run Try.prog w = .ok (.float .f64 (xpow WE (j + 1))) w := run_arith 37 hX
        have hlt' : (j : Int) < (M : Int) := by omega
        have HLT := Lib.hid hlt
        clear hX hlt
        go_wp2_with fail
        go_roundw
        case rel => exact ⟨j + 1, _, HLT.out, by go_num, rfl, rfl⟩
        case measure => have := HLT.out; simp [intOf]; omega
      · obtain rfl : j = M := by omega
        go_wp2_with fail
        refine (B2.out _).mono ?_
        rintro e w13 ⟨rfl, n13, rfl⟩
        go_wp2
        go_ret
        exact ⟨rfl, by repeat (first | exact HB12.out | refine below_drewN ?_ _)⟩
  · have hc1 : cap ≠ 1 := by omega
    refine (HD.out _ _ (cc.drop 1) 1090519040 (-3) (1 + x) (by first | (have h := RC_drop (c2 := cap - 1) HRC.out HN1.out; rw [hcl] at h; exact h) | exact ⟨_, _, by rw [hcl], by omega, .inl (by omega)⟩) HCW2.out HCL2.out (.inl ⟨rfl, rfl⟩) HP.out.1 HP.out.2).mono ?_
    rintro e w6 ⟨rfl, hb⟩
    rw [HF3.out]
    have HB6 := Lib.hid (below_step (Nat.le_refl _) HB5.out hb)
    replace HRC := Lib.hid (RC_below HRC.out hb)
    clear hb HB5 HCW1 HCW2 HCL1 HCL2
    go_wp2_with fail
    refine (HD.out _ _ [] 1090519040 (-3) (1 + x) (RC_nilv _) (fun c hc => by cases hc) (by simp) (.inl ⟨rfl, rfl⟩) HP.out.1 HP.out.2).mono ?_
    rintro e w7 ⟨rfl, hb⟩
    rw [show damSum [] 1090519040 (1 + x).toNat ([] : List Cyc).length = 0 from rfl]
    have HB7 := Lib.hid (below_step (Nat.le_refl _) HB6.out hb)
    replace HRC := Lib.hid (RC_below HRC.out hb)
    clear hb HB6
    go_wp2_with fail
    refine (B1.out _).mono ?_
    rintro e w8 ⟨rfl, n8, rfl⟩
    go_wp2_with fail
    refine (l_b10At u cs 1 3 _ (RB_below HU.out (below_drewN HB7.out n8)) (by decide) (by decide) (by decide)).mono ?_
    rintro e w9 ⟨⟨y, rfl, y0, y1⟩, n9, rfl⟩
    clear g7 hng h00 r1 r2 r3 r4 r5 r6 B1 hcl
    go_wp2_with fail
    refine (l_b10At u cs 2 8 _ (RB_below HU.out (below_drewN HB7.out (n8 + n9))) (by decide) (by decide) (by decide)).mono ?_
    rintro e w10 ⟨⟨z, rfl, z0, z1⟩, n10, rfl⟩
    have HRC2 : Hid (∀ k, RC (w7.drewN k) (.slice (some ⟨g, 0, none⟩) cc.length cap) cc) := fun k => Sl.drewN HRC.out k
    have HB72 : Hid (∀ k, Below w.heap.size w (w7.drewN k)) := fun k => below_drewN HB7.out k
    have hwz : IntKind.i64.wrap (1 + z) = 1 + z := by rw [IntKind.wrap_i64]; omega
    obtain ⟨C, hC, c0, c1⟩ := cnt_rv z0 z1
    rw [Int.add_comm] at hC
    have rc := run_arith (P := Try.prog) 26 hC
    have HEQ : Hid (∀ (n : Nat) (c : Nat) (W : World), n ≤ 2 → c = fa .quo .f32 (floatOfInt .f32 (1 + z)) 1073741824 → RC W (.slice (some ⟨g, 0, none⟩) cc.length cap) cc → Calls Try.prog 20 #[.slice (some ⟨g, 0, none⟩) cc.length cap, .float .f32 c, .int .i64 (n : Int)] W fun e w' => e = .returned (.tuple #[.float .f32 (eqRange cc c n), .bool true]) ∧ Below W.heap.size W w') := by
      intro n c W hn hc h1
      rw [← hc] at hC
      obtain ⟨⟨E, hE⟩, -⟩ := last_dam hn HCW.out HCL.out hC c0 c1
      refine (i_EqualRange _ cc c (n : Int) W h1).mono ?_
      rintro e w' ⟨r, rfl, hr2, hb⟩
      have hg : eqGood cc c (n : Int) = true := by
        unfold eqGood inside
        rw [areCyc_W HCW.out (by have := HCL.out; omega), above_rv hC (by grind)]
        simp; omega
      rw [hg, show ((n : Nat) : Int).toNat = n from rfl] at hr2 ⊢
      simp only [if_true, num, hE.fin, Bool.true_and, hE.cn] at hr2 ⊢
      rw [cn_is hr2 hE]
      exact ⟨rfl, hb⟩
    have HLD : Hid (∀ n : Nat, n ≤ 2 → _) := fun n hn => last_dam hn HCW.out HCL.out hC c0 c1
    generalize hCN : fa .quo .f32 (floatOfInt .f32 (1 + z)) 1073741824 = CN at *
    have HCN := Lib.hid hCN
    have HCV := Lib.hid hC
    clear hCN hC z0 z1 hwx
    obtain ⟨n, rfl⟩ : ∃ n : Nat, y = (n : Int) := ⟨y.toNat, by omega⟩
    have hn2 : n ≤ 2 := by omega
    have HN2 := Lib.hid hn2
    clear y0 y1
    obtain ⟨M, hM⟩ : ∃ M : Nat, M = 2 ^ n := ⟨_, rfl⟩
    have hM4 : 1 ≤ M ∧ M ≤ 4 := by
      rw [hM]
      exact ⟨Nat.one_le_two_pow, Nat.pow_le_pow_right (by decide) hn2⟩
    have hs1 : IntKind.i64.wrap ((2 : Int) ^ n) = (M : Int) := by
      have e : (2 : Int) ^ n = ((2 ^ n : Nat) : Int) := by push_cast; rfl
      rw [e, ← hM, IntKind.wrap_i64]; omega
    have hs2 : IntKind.i64.wrap (1 * (2 : Int) ^ n) = (M : Int) := by rw [Int.one_mul]; exact hs1
    have hs0 : ¬ (n : Int) < 0 := by omega
    have hs3 : (n : Int) ≤ 64 := by omega
    have hs4 : (0 : Int) ≤ (n : Int) := by omega
    have hs5 : IntKind.u64.wrap (n : Int) = (n : Int) := by rw [IntKind.wrap_u64]; omega
    obtain ⟨⟨e1, v1⟩, ⟨e2, v2⟩, vX, ⟨e3, v3⟩, hT⟩ := HLD.out n hn2
    rw [← hM] at v2 vX v3 hT
    have HX2 := Lib.hid vX
    obtain ⟨⟨ga, gb, gc, g1, g2, g3, g4⟩, ⟨_, g5⟩, ⟨_, g6⟩, g7⟩ := hT
    have r1 := run_wide (P := Try.prog) (src := 26) (dst := 37) (by kernel_rfl) Try.underlying37 v1
    have r2 := run_wide (P := Try.prog) (src := 26) (dst := 37) (by kernel_rfl) Try.underlying37 v2
    have r3 := run_wide (P := Try.prog) (src := 26) (dst := 37) (by kernel_rfl) Try.underlying37 HCV.out
    have r4 := run_arith (P := Try.prog) 37 v3
    have r5 := run_arith (P := Try.prog) 37 g5
    have r6 := run_arith (P := Try.prog) 37 g6
    have B2 := Lib.hid (fun W => l_b10Gap _ _ _ _ _ g1 g2 g3 g4 W)
    have HDM : Hid (∀ W, RC W (.slice (some ⟨g, 0, none⟩) cc.length cap) cc → Calls Try.prog 19 #[.slice (some ⟨g, 0, none⟩) cc.length cap, .float .f32 1065353216, .int .i64 (M : Int)] W fun e w' => e = .returned (.tuple #[.float .f32 (damSum cc 1065353216 M cc.length), .bool true]) ∧ Below W.heap.size W w') :=
      fun W h => HD.out W (.slice (some ⟨g, 0, none⟩) cc.length cap) cc 1065353216 0 (M : Int) h HCW.out HCL.out (.inr ⟨rfl, rfl⟩) (by omega) (by omega)
    have HMM := Lib.hid hM4
    unfold thr at g7
    clear v1 v2 vX v3 g1 g2 g3 g4 g5 g6 hM hM4 hn2
    generalize damSum cc 1065353216 M cc.length = DM at *
    go_wp2_with fail
    refine (HEQ.out n CN _ HN2.out rfl (HRC2.out _)).mono ?_
    rintro e w11 ⟨rfl, hb⟩
    have HB11 := Lib.hid (below_step (Nat.le_refl _) (HB72.out _) hb)
    replace HRC := Lib.hid (RC_below (HRC2.out _) hb)
    clear hb HB7 HRC2 HB72
    generalize eqRange cc CN n = EQ at *
    go_wp2_with fail
    refine (HDM.out _ HRC.out).mono ?_
    rintro e w12 ⟨rfl, hb⟩
    have HB12 := Lib.hid (below_step (Nat.le_refl _) HB11.out hb)
    clear hb HB11 HRC HD HEQ HLD HDM
    generalize widen EQ = WE at *
    go_wp2_with fail
    have hM9 : M ≤ 4 := HMM.out.2
    go_loopw [23, 24] (fun t k wr => ∃ j n : Nat, j ≤ M ∧ k = .int .i64 (j : Int) ∧ t = .float .f64 (xpow WE j) ∧ wr = w12.drewN n) (fun _ k _ => M - (intOf k).toNat)
    case atStart => exact ⟨0, 0, Nat.zero_le _, rfl, rfl, rfl⟩
    case round =>
      obtain ⟨j, n', hj, rfl, rfl, rfl⟩ := hrel
      by_cases hlt : j < M
      · obtain ⟨X, hX⟩ := HX2.out (j + 1) hlt
        have rx : ∀ w, (binOp .mul 37 (.float .f64 (xpow WE j)) (.float .f64 WE)).run Try.prog w = .ok (.float .f64 (xpow WE (j + 1))) w := run_arith 37 hX
        have hlt' : (j : Int) < (M : Int) := by omega
        have HLT := Lib.hid hlt
        clear hX hlt
        go_wp2_with fail
        go_roundw
        case rel => exact ⟨j + 1, _, HLT.out, by go_num, rfl, rfl⟩
        case measure => have := HLT.out; simp [intOf]; omega
      · obtain rfl : j = M := by omega
        go_wp2_with fail
        refine (B2.out _).mono ?_
        rintro e w13 ⟨rfl, n13, rfl⟩
        go_wp2
        go_ret
        exact ⟨rfl, by repeat (first | exact HB12.out | refine below_drewN ?_ _)⟩
set_option maxRecDepth 100000 in
theorem FnDamage_lifted (os : Os) (started : os.Started) (H : Type) (enc : TypeId × Value → H) :
    ReturnsInHanded {} Try.checked os 4 .any (Rows.fnDamageSpec.pre6 enc Try.prog Try.f4 Rows.fnDamageRow.domain false) (Rows.fnDamageSpec.post enc Try.prog Try.f4 false true false false) := by
  refine returnsInHanded_of_change_sized (C := Try.checked) Try.own started (by as_aux_lemma => kernel_rfl) Try.func4
    (ChangeSpec.witness6 (enc := enc) (C := Try.checked) false ⟨#[], #[.slice none 0 0, .slice none 0 0], []⟩ 8 (by as_aux_lemma => kernel_rfl) (by as_aux_lemma => kernel_rfl) (by as_aux_lemma => kernel_rfl) (by as_aux_lemma => kernel_rfl)) ?_
  intro W base args ds gs before hval0 hW hcnd0 hsz0 _
  have hval : ∀ (j : Nat) t v, Try.f4.params[j]? = some t → args[j]? = some v → Value.okWide Try.prog W .any base t v := hval0
  have hsz : (DataW.weightsEach Try.prog (Try.f4.params.toList ++ Rows.fnDamageSpec.plain.varTypes Try.prog) (ds ++ gs)).all (· ≤ reachBytes) = true := hsz0
  have hW' := hW
  obtain ⟨p, q, hA0, hV, rfl, hfz, hnd⟩ := hW
  have hA : DataW.TrodAll enc Try.prog W 0 (fun _ => true) true Try.f4.params.toList args.toList ds p := hA0
  rw [Try.params4] at hA hval hsz
  obtain ⟨rfl, rfl⟩ := trodVars_none hV
  obtain ⟨v0, vs0, d0, ds0, p0, q0, ha0, rfl, rfl, h0, r0⟩ := trodAll_cons hA
  obtain ⟨v1, vs1, d1, ds1, p1, q1, rfl, rfl, rfl, h1, r1⟩ := trodAll_cons r0
  obtain ⟨rfl, rfl, rfl⟩ := trodAll_nil r1
  obtain rfl : args = #[v0, v1] := by apply Array.ext'; exact ha0
  obtain ⟨v, R_v⟩ := open_RB (hval 0 _ v0 rfl rfl) h0
  obtain ⟨u, R_u⟩ := open_RB (hval 1 _ v1 rfl rfl) h1
  refine (l_FnDamage v0 v1 v u W R_v R_u).mono fun e W' ⟨he, hb⟩ => ?_
  subst he
  exact ⟨_, rfl, post_law Try.laidOut (by as_aux_lemma => kernel_rfl) rfl Try.underlying4 hW' rfl ⟨rfl, rfl, rfl⟩ hb⟩

theorem FnDamage_holds : Rows.FnDamageSaid :=
  OpenClaim.holds_of_wide 4 Try.f4 rfl rfl rfl rfl rfl rfl rfl ⟨rfl, rfl, rfl, rfl, rfl⟩ rfl rfl rfl rfl rfl (by as_aux_lemma => kernel_rfl) Try.func4 (by as_aux_lemma => kernel_rfl)
    (of_decide_eq_true (by as_aux_lemma => kernel_rfl)) (by unfold Func.isWrapper; rw [if_neg (of_decide_eq_false (by as_aux_lemma => kernel_rfl))]; exact ⟨rfl, rfl⟩)
    (fun os started H enc _ => FnDamage_lifted os started H enc)
end Go.Proofs.Ytmpmnhnobgidoaa
