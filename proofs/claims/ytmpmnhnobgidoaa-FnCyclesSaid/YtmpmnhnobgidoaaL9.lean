/- For every input the law FnCycles answers true. -/
import Derived.Test.YtmpmnhnobgidoaaVP
import Derived.Test.YtmpmnhnobgidoaaYD
import Derived.Test.YtmpmnhnobgidoaaJ
import Derived.Test.YtmpmnhnobgidoaaK
import Derived.Lib.QuietBelow
namespace Go.Proofs.Ytmpmnhnobgidoaa
set_option linter.unusedSimpArgs false
set_option linter.unusedVariables false
open Go.ChangeShapes Go.WideShapes Go.ChangeAt Go.RowKit Go.Joins Go.Deep Go.Fl Go.Lib

theorem RF_atD {w : World} {p : Option Addr} {n cap : Nat} {xs : List Nat} (h : RF w (.slice p n cap) xs) {i : Nat} (hi : i < xs.length) : ∃ b off, p = some ⟨b, off, none⟩ ∧ ∀ j, j < xs.length → w.cell? ⟨b, off + j, none⟩ = some (.float .f32 (xs.getD j 0)) := by
  obtain ⟨q, c, e, -, hc⟩ := h
  cases e
  obtain ⟨b, off, e2, hcell⟩ := hc.resolve_left (by omega)
  exact ⟨b, off, e2, fun j hj => hcell j _ (by rw [List.getElem?_map, List.getElem?_eq_getElem hj, getD_at hj]; rfl)⟩
/-- A slice's cells from the start of a block on. -/
def RFg (w : World) (g n : Nat) (xs : List Nat) : Prop := n = xs.length ∧ ∀ j, j < n → w.cell? ⟨g, j, none⟩ = some (.float .f32 (xs.getD j 0))
theorem RFg.below {w w' : World} {g n : Nat} {xs : List Nat} (h : RFg w g n xs) (hb : Below w.heap.size w w') : RFg w' g n xs :=
  ⟨h.1, fun j hj => (hb.cell (p := ⟨g, j, none⟩) (block_lt_of_cell (h.2 j hj))).trans (h.2 j hj)⟩
theorem RFg.rf {w : World} {g n cap : Nat} {xs : List Nat} (h : RFg w g n xs) (hl : n ≤ 281474976710656) : RF w (.slice (some ⟨g, 0, none⟩) n cap) xs := by
  obtain ⟨rfl, h⟩ := h
  refine ⟨_, _, rfl, hl, .inr ⟨g, 0, rfl, fun j u hj => ?_⟩⟩
  rw [List.getElem?_map] at hj
  cases hx : xs[j]? with
  | none => rw [hx] at hj; cases hj
  | some x =>
    rw [hx] at hj
    have hlt : j < xs.length := by
      apply Nat.lt_of_not_le; intro hle
      rw [List.getElem?_eq_none hle] at hx; cases hx
    have := h j hlt
    rw [List.getD_eq_getElem?_getD, hx] at this
    rw [Nat.zero_add, this]
    exact hj
theorem OF_own {B : Nat} {w : World} {v : Value} {xs : List Nat} (h : OF B w v xs) (hn : 1 ≤ xs.length) : ∃ g cap, v = .slice (some ⟨g, 0, none⟩) xs.length cap ∧ RFg w g xs.length xs := by
  rcases h.2 with ⟨-, h0⟩ | ⟨g, cap, cur, rfl, -⟩
  · simp at h0
    subst h0
    simp at hn
  · exact ⟨g, cap, rfl, rfl, fun j hj => OF_cell h j hj⟩
theorem RC_atD {w : World} {p : Option Addr} {n cap : Nat} {cs : List Cyc} (h : RC w (.slice p n cap) cs) {i : Nat} (hi : i < cs.length) : ∃ b off, p = some ⟨b, off, none⟩ ∧ CycAt w b (off + i * 3) (cs.getD i zeroCyc) := by
  obtain ⟨q, c, e, -, hc⟩ := h
  cases e
  obtain ⟨b, off, e2, hcell⟩ := hc.resolve_left (by omega)
  refine ⟨b, off, e2, ?_⟩
  have := CycAt_of hcell i hi
  rwa [show cs.getD i zeroCyc = cs[i] by rw [List.getD_eq_getElem?_getD, List.getElem?_eq_getElem hi]; rfl]
theorem RI_atD {w : World} {p : Option Addr} {n cap : Nat} {xs : List Int} (h : RI w (.slice p n cap) xs) {i : Nat} (hi : i < xs.length) : ∃ b off, p = some ⟨b, off, none⟩ ∧ w.cell? ⟨b, off + i, none⟩ = some (.int .i64 (xs.getD i 0)) := by
  obtain ⟨q, c, e, -, hc⟩ := h
  cases e
  obtain ⟨b, off, e2, hcell⟩ := hc.resolve_left (by omega)
  exact ⟨b, off, e2, hcell i _ (by rw [List.getElem?_map, List.getD_eq_getElem?_getD, List.getElem?_eq_getElem hi]; rfl)⟩
theorem opps_take {xs : List Nat} {k : Nat} (h : k < xs.length) : opps (xs.take (k + 1)) = opps (xs.take k) ++ [opp (xs.getD k 0)] := by
  unfold opps
  rw [List.take_succ_eq_append_getElem h, List.map_append, getD_at h]
  rfl
theorem Wh.at {xs : List Nat} {ks : List Int} (h : Wh xs ks) {k : Nat} (hk : k < xs.length) : xs.getD k 0 = fi (ks.getD k 0) ∧ -8 ≤ ks.getD k 0 ∧ ks.getD k 0 ≤ 8 := by
  have hl := h.len
  have h2 := h.2 _ (getD_in (ks := ks) (k := k) (by omega))
  refine ⟨?_, h2⟩
  rw [h.1, List.getD_eq_getElem?_getD, List.getElem?_map, List.getD_eq_getElem?_getD, List.getElem?_eq_getElem (show k < ks.length by omega)]
  rfl
set_option maxRecDepth 100000 in
set_option maxHeartbeats 16000000 in
theorem l_FnCycles (v u : Value) (bs cs : List Nat) (w : World) (h0 : RBw w v bs) (h1 : RBw w u cs) : Calls Try.prog 5 #[v, u] w fun e w' => e = .returned (.bool true) ∧ Below w.heap.size w w' := by
  have HL := Lib.hid (l_b10Long v u bs cs w h0 h1)
  by_cases hl : bs.length ≤ 1048576 ∧ cs.length ≤ 1048576
  case neg =>
    have hd : (decide (1048576 < bs.length) || decide (1048576 < cs.length)) = true := by simp; omega
    rw [hd] at HL
    clear h0 h1 hl hd
    go_enter Try.func5, Try.ntmps5
    go_wp2_with fail
    refine HL.out.mono ?_
    rintro e w1 ⟨rfl, n, rfl⟩
    go_wp2
    go_ret
    exact ⟨rfl, (by repeat (first | exact Below.refl _ _ | assumption | refine below_drewN ?_ _ | refine below_alloc (Nat.le_refl _) ?_ _ | (refine Below.setCell ?_ (by first | exact Nat.le_refl _ | (simp; done) | (simp; omega) | omega) _) | (refine below_step (Nat.le_refl _) ?_ (by assumption))))⟩
  have hd : (decide (1048576 < bs.length) || decide (1048576 < cs.length)) = false := by simp; omega
  rw [hd] at HL
  have HV := Lib.hid (RB_of h0 hl.1)
  clear h0 h1 hl hd
  go_enter Try.func5, Try.ntmps5
  go_wp2_with fail
  refine HL.out.mono ?_
  rintro e w0 ⟨rfl, n0, rfl⟩
  go_wp2_with fail
  refine (s_B10Loads v bs _ (RB_below HV.out (by repeat (first | exact Below.refl _ _ | assumption | refine below_drewN ?_ _ | refine below_alloc (Nat.le_refl _) ?_ _ | (refine Below.setCell ?_ (by first | exact Nat.le_refl _ | (simp; done) | (simp; omega) | omega) _) | (refine below_step (Nat.le_refl _) ?_ (by assumption)))))).mono ?_
  rintro e w1 ⟨a, xs, ks, rfl, hO, hW, x1, x2, hb⟩
  have HB1 : Hid (Below w.heap.size w w1) := below_step (Nat.le_refl _) (by repeat (first | exact Below.refl _ _ | assumption | refine below_drewN ?_ _ | refine below_alloc (Nat.le_refl _) ?_ _ | (refine Below.setCell ?_ (by first | exact Nat.le_refl _ | (simp; done) | (simp; omega) | omega) _) | (refine below_step (Nat.le_refl _) ?_ (by assumption)))) hb
  have HX := Lib.hid (And.intro x1 x2)
  have HW := Lib.hid hW
  have HF := Lib.hid (FnC.of hW x1 x2)
  have HLO := Lib.hid (hW.loads x1 x2)
  obtain ⟨ba, ca, rfl, ra⟩ := OF_own hO x1
  have HA := Lib.hid ra
  clear hb hO hW x1 x2 HL ra
  go_wp2_with fail
  -- the ends
  have HM : Hid (∀ W, RFg W ba xs.length xs → Calls Try.prog 21 #[.slice (some ⟨ba, 0, none⟩) xs.length ca] W fun e w' => ∃ p c, e = .returned (.tuple #[.slice (some ⟨p, 0, none⟩) (ends xs).length c, .bool true]) ∧ RFg w' p (ends xs).length (ends xs) ∧ Below W.heap.size W w') := fun W h => by
    refine (i_EndsOf _ xs W (h.rf (by have := HX.out; omega)) (by have := HX.out; omega)).mono ?_
    rintro e w' ⟨x, zs, rfl, hO, hF, hb⟩
    rw [HLO.out] at hF ⊢
    rw [if_pos rfl] at hF
    obtain rfl := hF.isV (ends_P HW.out.isV)
    obtain ⟨p, c, rfl, hR⟩ := OF_own hO HF.out.ends.pos
    exact ⟨p, c, rfl, hR, hb⟩
  refine (HM.out _ HA.out).mono ?_
  rintro e w2 ⟨be, ce, rfl, hR, hb⟩
  replace HA := Lib.hid (HA.out.below hb)
  replace HB1 := Lib.hid (below_step (Nat.le_refl _) HB1.out hb)
  have HE := Lib.hid hR
  clear hb HM hR
  go_wp2_with fail
  -- the cycles
  have HM : Hid (∀ W v xs', (∀ x ∈ xs', IsV x) → 1 ≤ xs'.length → xs'.length ≤ 16 → (cycles xs').length ≤ 16 → RF W v xs' → Calls Try.prog 22 #[v] W fun e w' => ∃ p c, e = .returned (.tuple #[.slice p (cycles xs').length c, .bool true]) ∧ RC w' (.slice p (cycles xs').length c) (cycles xs') ∧ Below W.heap.size W w') := fun W v xs' h1 h2 h3 h4 h => by
    refine (i_CyclesOf v xs' W h).mono ?_
    rintro e w' ⟨x, rfl, hO, hb⟩
    rw [isV_loads h1 h2 h3] at hO ⊢
    rw [if_pos rfl] at hO
    have hR := RC_of_own hO (by omega)
    obtain ⟨p, c, rfl, h3⟩ := id hR
    exact ⟨p, c, rfl, hR, hb⟩
  refine (HM.out _ _ xs HW.out.isV HX.out.1 HX.out.2 HF.out.len (HA.out.rf (by have := HX.out; omega))).mono ?_
  rintro e w3 ⟨pc, cc, rfl, hR, hb⟩
  replace HA := Lib.hid (HA.out.below hb)
  replace HE := Lib.hid (HE.out.below hb)
  replace HB1 := Lib.hid (below_step (Nat.le_refl _) HB1.out hb)
  have HC := Lib.hid hR
  have HOP := Lib.hid HW.out.oppV.1
  clear hb hR
  have HDS : Hid (∀ W v, RF W v (opps xs) → Calls Try.prog 22 #[v] W fun e w' => ∃ p c, e = .returned (.tuple #[.slice p (cycles xs).length c, .bool true]) ∧ RC w' (.slice p (cycles xs).length c) (cycles (opps xs)) ∧ Below W.heap.size W w') := fun W v h => by
    refine (HM.out W v (opps xs) HOP.out (by unfold opps; rw [List.length_map]; exact HX.out.1) (by unfold opps; rw [List.length_map]; exact HX.out.2) (by rw [HF.out.back]; exact HF.out.len) h).mono ?_
    rintro e w' ⟨p, c, rfl, hR, hb⟩
    rw [HF.out.back] at hR ⊢
    exact ⟨p, c, rfl, hR, hb⟩
  clear HM HOP HLO HV
  generalize cycles (opps xs) = ds at *
  generalize hzs : ends xs = zs at *
  generalize cycles xs = cs at *
  clear hzs
  generalize hlo : lowOf ks = lo at *
  generalize hhi : highOf ks = hi at *
  have HLH := Lib.hid (And.intro hlo hhi)
  clear hlo hhi
  obtain ⟨m, hm⟩ : ∃ m, zs.length = m + 1 := ⟨zs.length - 1, by have := HF.out.ends.pos; omega⟩
  obtain ⟨n, hn⟩ : ∃ n, xs.length = n + 1 := ⟨xs.length - 1, by have := HX.out.1; omega⟩
  rw [hm] at HE
  rw [hn] at HA
  rw [hm, hn]
  have HMN : Hid (zs.length = m + 1 ∧ xs.length = n + 1 ∧ m ≤ 15 ∧ n ≤ 15) := ⟨hm, hn, by have := HX.out; have := HF.out.ends.len; omega, by have := HX.out; omega⟩
  clear hm hn
  have k1 := cell_regrown (HE.out.2 0 (by omega))
  have k2 := cell_regrown (HE.out.2 m (by omega))
  have k3 := cell_regrown (HA.out.2 0 (by omega))
  have k4 := cell_regrown (HA.out.2 n (by omega))
  have o1 := HF.out.ends.head
  have o2 := HF.out.ends.last
  rw [HMN.out.1, HMN.out.2.1, Nat.add_sub_cancel, Nat.add_sub_cancel] at o2
  generalize zs.getD 0 0 = Z0 at k1 o1
  generalize xs.getD 0 0 = X0 at k3 o1
  generalize zs.getD m 0 = Z1 at k2 o2
  generalize xs.getD n 0 = X1 at k4 o2
  have q1 : IntKind.i64.wrap (m : Int) = (m : Int) := by rw [IntKind.wrap_i64]; have := HMN.out; omega
  have q2 : IntKind.i64.wrap (n : Int) = (n : Int) := by rw [IntKind.wrap_i64]; have := HMN.out; omega
  have q3 : decide ((m : Int) + 1 < 1) = false := decide_eq_false (by omega)
  have q4 : (m : Int) < (m : Int) + 1 := by omega
  have q5 : (n : Int) < (n : Int) + 1 := by omega
  have q6 : (0 : Int) < (m : Int) + 1 := by omega
  have q7 : (0 : Int) < (n : Int) + 1 := by omega
  have H1 := Lib.hid (fun d os => Calls.regrown_of (i_AreCycles (.slice pc cs.length cc) cs (Sort.grow (redrawn w3 d) os) (RC_below HC.out (below_regrown w3 d os))))
  rw [HF.out.are] at H1
  go_wp2_with fail
  refine wp_region_quiet_below (by kernel_rfl) (by kernel_rfl) ?_
  repeat (go_big_quiet_step (first | with_reducible exact H1.out _ _))
  refine wpQuiet_nil ?_
  intro _ hw'
  obtain ⟨⟨dq, osq⟩, hw''⟩ := hw'
  subst hw''
  have hb : Below w3.heap.size w3 (Sort.grow (redrawn w3 dq) osq) := below_regrown w3 dq osq
  show Exit.then _ _ _ _ (Sort.grow (redrawn w3 dq) osq)
  generalize Sort.grow (redrawn w3 dq) osq = w4 at *
  replace HA := Lib.hid (HA.out.below hb)
  replace HE := Lib.hid (HE.out.below hb)
  replace HC := Lib.hid (RC_below HC.out hb)
  replace HB1 := Lib.hid (below_step (Nat.le_refl _) HB1.out hb)
  clear hb k1 k2 k3 k4 o1 o2 H1 q1 q2 q3 q4 q5 q6 q7
  go_wp2_with fail
  -- up and down
  go_loopw [10] (fun i wr => ∃ k p : Nat, k ≤ m ∧ i = .int .i64 ((k : Int) + 1) ∧ wr = w4.drewN p) (fun i _ => m + 1 - (intOf i).toNat)
  case atStart => exact ⟨0, 0, Nat.zero_le _, rfl, rfl⟩
  case round =>
    obtain ⟨k, p, hk, rfl, rfl⟩ := hrel
    by_cases hlt : k < m
    · have c0 := HE.out.2 (k + 1) (by omega)
      have c1 := HE.out.2 k (by omega)
      have d0 := HF.out.ends.ne k (by have := HMN.out; omega)
      have r1 : (k : Int) + 1 < (m : Int) + 1 := by omega
      have r2 : (k : Int) < (m : Int) + 1 := by omega
      have r3 : (0 : Int) ≤ (k : Int) + 1 := by omega
      have r4 : ((k : Int) + 1).toNat = k + 1 := by omega
      have r5 : IntKind.i64.wrap (k : Int) = (k : Int) := by rw [IntKind.wrap_i64]; have := HMN.out; omega
      have r6 : (k : Int) < (m : Int) := by omega
      by_cases hk0 : k = 0
      · subst hk0
        generalize zs.getD (0 + 1) 0 = Z1 at c0 d0
        generalize zs.getD 0 0 = Z0 at c1 d0
        go_wp2_with fail
        go_quiet (fail)
        go_wp2_with fail
        go_roundw
        case rel => exact ⟨1, _, by omega, by go_num, rfl⟩
        case measure => simp [intOf]; omega
      · obtain ⟨l, rfl⟩ : ∃ l, k = l + 1 := ⟨k - 1, by omega⟩
        have c2 := HE.out.2 l (by omega)
        have t1 : decide ((1 : Int) < (l : Int) + 1 + 1) = true := by simp; omega
        have t2 : (l : Int) + 1 + 1 < (m : Int) + 1 := by omega
        have t3 : (l : Int) + 1 < (m : Int) + 1 := by omega
        have t4 : (l : Int) < (m : Int) + 1 := by omega
        have t5 : (l : Int) + 1 < (m : Int) := by omega
        have t6 : (l : Int) < (m : Int) := by omega
        have t7 : (0 : Int) ≤ (l : Int) + 1 + 1 := by omega
        have t8 : (0 : Int) ≤ (l : Int) + 1 := by omega
        have t9 : ((l : Int) + 1 + 1).toNat = l + 1 + 1 := by omega
        have t10 : ((l : Int) + 1).toNat = l + 1 := by omega
        have t11 : IntKind.i64.wrap ((l : Int) + 1) = (l : Int) + 1 := by rw [IntKind.wrap_i64]; have := HMN.out; omega
        have t12 : IntKind.i64.wrap (l : Int) = (l : Int) := by rw [IntKind.wrap_i64]; have := HMN.out; omega
        have t13 : (l : Int) + 1 + 1 - 2 = (l : Int) := by omega
        have HLT : Hid (l + 1 < m) := hlt
        have hl15 : l < 15 := by have := HMN.out; omega
        clear r1 r2 r3 r4 r5 r6 hk hk0 hlt
        rcases HF.out.ends.zig l (by have := HMN.out; have := HLT.out; omega) with ⟨z1, z2⟩ | ⟨z1, z2⟩
        all_goals
          generalize zs.getD (l + 1 + 1) 0 = Z2 at *
          generalize zs.getD (l + 2) 0 = Z2' at *
          generalize zs.getD (l + 1) 0 = Z1 at *
          generalize zs.getD l 0 = Z0 at *
          push_cast
          go_wp2_with fail
          go_quiet (fail)
          go_wp2_with fail
          go_roundw
          case rel => exact ⟨l + 1 + 1, _, by have := HLT.out; omega, by go_num, rfl⟩
          case measure => have := HLT.out; simp [intOf]; omega
    · have r0 : ¬ ((k : Int) + 1 < (m : Int) + 1) := by omega
      have r1 : ¬ ((k : Int) < (m : Int)) := by omega
      have ca0 := HA.out.2 0 (by omega)
      have hx0 := (HW.out.at (k := 0) (by have := HX.out; omega)).1
      rw [hx0] at ca0
      have hp : ∃ q, q = p := ⟨_, rfl⟩
      clear hp hx0
      generalize hF0 : fi (ks.getD 0 0) = F0 at ca0
      have HF0 := Lib.hid hF0
      clear hF0 hk hlt
      go_wp2_with fail
      clear r0 r1 ca0
      -- the least and the greatest
      go_loopw [12, 13, 136] (fun l h i wr => ∃ j : Nat, j ≤ n + 1 ∧ i = .int .i64 (j : Int) ∧ l = .float .f32 (fi (lowTo ks j)) ∧ h = .float .f32 (fi (highTo ks j)) ∧ wr = w4.drewN p) (fun _ _ i _ => n + 1 - (intOf i).toNat)
      case atStart => exact ⟨0, Nat.zero_le _, rfl, by rw [← HF0.out]; rfl, by rw [← HF0.out]; rfl, rfl⟩
      case round =>
        obtain ⟨j, hj, rfl, rfl, rfl, rfl⟩ := hrel
        by_cases hlt : j < n + 1
        ·
          have c1 := HA.out.2 j hlt
          obtain ⟨e1, e2, e3⟩ := HW.out.at (k := j) (by have := HMN.out; omega)
          have hkl : ks.length = n + 1 := by have := HW.out.len; have := HMN.out; omega
          have g1 := HW.out.2 _ (lowTo_mem (ks := ks) (by omega) j (by omega))
          have g2 := HW.out.2 _ (highTo_mem (ks := ks) (by omega) j (by omega))
          rw [e1] at c1
          have HS1 : Hid (lowTo ks (j + 1) = min (lowTo ks j) (ks.getD j 0)) := rfl
          have HS2 : Hid (highTo ks (j + 1) = max (highTo ks j) (ks.getD j 0)) := rfl
          have r1 := run_minW Try.prog g1.1 g1.2 e2 e3
          have r2 := run_maxW Try.prog g2.1 g2.2 e2 e3
          have r3 : (j : Int) < (n : Int) + 1 := by omega
          have HLT := Lib.hid hlt
          have hj15 : j < 16 := by have := HMN.out; omega
          clear e1 e2 e3 g1 g2 hkl hj hlt
          generalize hL1 : lowTo ks (j + 1) = L1 at *
          generalize hL2 : highTo ks (j + 1) = L2 at *
          have HL1 := Lib.hid hL1
          have HL2 := Lib.hid hL2
          clear hL1 hL2
          generalize ks.getD j 0 = B at *
          generalize lowTo ks j = A1 at *
          generalize highTo ks j = A2 at *
          rw [← HS1.out] at r1
          rw [← HS2.out] at r2
          go_wp2_with fail
          go_roundw
          case rel => exact ⟨j + 1, HLT.out, by go_num, by rw [HL1.out], by rw [HL2.out], trivial⟩
          case measure => have := HLT.out; simp [intOf]; omega
        · obtain rfl : j = n + 1 := by omega
          have hkl : ks.length = n + 1 := by have := HW.out.len; have := HMN.out; omega
          have e1 : lowTo ks (n + 1) = lo := by rw [← HLH.out.1, ← hkl]; rfl
          have e2 : highTo ks (n + 1) = hi := by rw [← HLH.out.2, ← hkl]; rfl
          rw [e1, e2, show ((n + 1 : Nat) : Int) = (n : Int) + 1 from rfl]
          have HKL := Lib.hid hkl
          clear hkl e1 e2 hj hlt HF0
          go_wp2_with fail
          -- the halves
          go_loopw [11, 154] (fun h i wr => ∃ j q : Nat, j ≤ cs.length ∧ i = .int .i64 (j : Int) ∧ h = .int .i64 ((hvTo cs j : Nat) : Int) ∧ wr = w4.drewN q) (fun _ i _ => cs.length - (intOf i).toNat)
          case atStart => exact ⟨0, p, Nat.zero_le _, rfl, rfl, rfl⟩
          case round =>
            obtain ⟨j, q, hj, rfl, rfl, rfl⟩ := hrel
            by_cases hlt : j < cs.length
            ·
              obtain ⟨bc, oc, rfl, a1, a2, a3⟩ := RC_atD HC.out hlt
              obtain ⟨d1, d2, d3, -, -⟩ := HF.out.cyc j hlt
              have hv := hvTo_le cs j
              have HLT := Lib.hid hlt
              have hl16 : j < 16 := by have := HF.out.len; omega
              have r3 : (j : Int) < (cs.length : Int) := by omega
              have HS : Hid (hvTo cs (j + 1) = hvTo cs j + (if (cs.getD j zeroCyc).wh then 2 else 1)) := rfl
              generalize hH2 : hvTo cs (j + 1) = H2 at *
              have HH2 := Lib.hid hH2
              clear hH2
              generalize hvTo cs j = H1 at *
              obtain ⟨c, hc⟩ : ∃ c, c = cs.getD j zeroCyc := ⟨_, rfl⟩
              rw [← hc] at a1 a2 a3 d1 d2 d3 HS
              clear hc
              obtain ⟨l, h, wh⟩ := c
              replace d1 : (FloatKind.f32.format.order l (fi lo) == some .lt) = false := d1
              replace d2 : (FloatKind.f32.format.order h (fi hi) == some .gt) = false := d2
              replace d3 : FloatKind.f32.format.order l h = some .lt := d3
              replace a1 : w4.cell? ⟨bc, oc + j * 3, none⟩ = some (.float .f32 l) := a1
              replace a2 : w4.cell? ⟨bc, oc + j * 3 + 1, none⟩ = some (.float .f32 h) := a2
              replace a3 : w4.cell? ⟨bc, oc + j * 3 + 2, none⟩ = some (.bool wh) := a3
              clear hj hlt
              cases wh
              all_goals
                go_wp2_with fail
                go_quiet (fail)
                go_wp2_with fail
                go_roundw
                case rel => exact ⟨j + 1, _, HLT.out, by go_num, by rw [HH2.out, HS.out]; go_num, rfl⟩
                case measure => have := HLT.out; simp [intOf]; omega
            · obtain rfl : j = cs.length := by omega
              have hh := HF.out.halves
              rw [HMN.out.1, Nat.add_sub_cancel] at hh
              have HH := Lib.hid hh
              rw [hh]
              have q1 : IntKind.i64.wrap (m : Int) = (m : Int) := by rw [IntKind.wrap_i64]; have := HMN.out; omega
              clear hj hlt hh
              go_wp2_with fail
              have HO2 : Hid (OF w4.heap.size ((w4.drewN q).alloc (.cells #[] 26)) (.slice (some ⟨w4.heap.size, 0, none⟩) 0 0) []) := OF_empty _ _ _ (by simp) (by simp) _ rfl
              have HB2 : Hid (Below w4.heap.size w4 ((w4.drewN q).alloc (.cells #[] 26))) := below_alloc (Nat.le_refl _) (below_drewN (Below.refl _ _) q) _
              generalize (w4.drewN q).alloc (.cells #[] 26) = w5 at *
              obtain ⟨z, hz⟩ : ∃ z, z = w4.heap.size := ⟨_, rfl⟩
              rw [← hz] at HO2
              rw [← hz]
              have HZ := Lib.hid hz
              have hopp : ∀ x, Op.unary .neg (.float .f32 x) = pure (.float .f32 (opp x)) := fun _ => rfl
              clear hz q1
              -- the other sign
              go_loopw [16, 204] (fun o i wr => ∃ j : Nat, j ≤ n + 1 ∧ i = .int .i64 (j : Int) ∧ Hid (OF w4.heap.size wr o (opps (xs.take j))) ∧ Hid (Below w4.heap.size w4 wr)) (fun _ i _ => n + 1 - (intOf i).toNat)
              case atStart => exact ⟨0, Nat.zero_le _, rfl, (by show OF _ _ _ _; rw [← HZ.out]; exact HO2.out), HB2.out⟩
              case round =>
                obtain ⟨j, hj, rfl, hO, hB⟩ := hrel
                by_cases hlt : j < n + 1
                ·
                  have c1 := (hB.out.cell (p := ⟨ba, j, none⟩) (block_lt_of_cell (HA.out.2 j hlt))).trans (HA.out.2 j hlt)
                  have HT := Lib.hid (opps_take (xs := xs) (k := j) (by have := HMN.out; omega))
                  have HXL : Hid ((opps (xs.take j)).length ≤ 1048576) := by show _ ≤ _; unfold opps; rw [List.length_map, List.length_take]; have := HMN.out; omega
                  have HS : Hid (w4.heap.size ≤ wr.heap.size) := hB.out.size
                  generalize hy2 : opps (xs.take (j + 1)) = ys2 at *
                  have HY2 := Lib.hid hy2
                  clear hy2
                  generalize opps (xs.take j) = ys at *
                  generalize xs.getD j 0 = X at *
                  have r3 : (j : Int) < (n : Int) + 1 := by omega
                  have hj16 : j < 16 := by have := HMN.out; omega
                  have HOa : Hid (OF w4.heap.size (wr.alloc (.cells #[.float .f32 (opp X)] 26)) u16 ys) := OF_below hO.out (below_alloc (Nat.le_refl _) (Below.refl _ _) _)
                  have HLT := Lib.hid hlt
                  clear hj hlt
                  go_wp2_with (refine wpList_appF w4.heap.size ys (opp X) rfl rfl rfl rfl HOa.out (cell_top1 _ _ rfl _ _) HXL.out (by rw [World.size_alloc]; have := HS.out; omega) ?_; intro u w6 hO6 hB6)
                  go_roundw
                  case rel => exact ⟨j + 1, HLT.out, by go_num, (by rw [HY2.out, HT.out]; exact hO6), hB.out.trans (Below.trans (below_alloc HS.out (Below.refl _ _) _) hB6)⟩
                  case measure => have := HLT.out; simp [intOf]; omega
                · obtain rfl : j = n + 1 := by omega
                  have ht : xs.take (n + 1) = xs := by rw [← HMN.out.2.1, List.take_length]
                  rw [ht] at hO
                  have R4 := Lib.hid (RF_of_own hO.out (by unfold opps; rw [List.length_map]; have := HMN.out; omega))
                  replace HA := Lib.hid (HA.out.below hB.out)
                  replace HC := Lib.hid (RC_below HC.out hB.out)
                  replace HB1 := Lib.hid (below_step (Nat.le_refl _) HB1.out hB.out)
                  rw [show ((n + 1 : Nat) : Int) = (n : Int) + 1 from rfl]
                  clear ht hj hlt hO hB HO2 HB2 HZ
                  go_wp2_with fail
                  refine (HDS.out _ _ R4.out).mono ?_
                  rintro e w6 ⟨pd, cd, rfl, hR, hb⟩
                  have HD := Lib.hid hR
                  replace HC := Lib.hid (RC_below HC.out hb)
                  replace HB1 := Lib.hid (below_step (Nat.le_refl _) HB1.out hb)
                  clear hR hb HDS R4 hopp
                  go_wp2_with fail
                  -- the longest
                  have HM : Hid (∀ W, RC W (.slice pc cs.length cc) cs → Calls Try.prog 24 #[.slice pc cs.length cc] W fun e w' => ∃ (I : Int) (M : Nat), e = .returned (.tuple #[.int .i64 I, .float .f32 M, .bool (decide (1 ≤ cs.length))]) ∧ LongF cs lo hi I M ∧ Below W.heap.size W w') := fun W h => by
                    refine (i_LongestCycle _ cs W h).mono ?_
                    rintro e w' ⟨r, rfl, hr, hb⟩
                    obtain ⟨e1, e2⟩ := HF.out.long hr
                    rw [e1]
                    exact ⟨_, r, rfl, e2, hb⟩
                  refine (HM.out _ HC.out).mono ?_
                  rintro e w7 ⟨I, M, rfl, hlf, hb⟩
                  have HLF := Lib.hid hlf
                  replace HC := Lib.hid (RC_below HC.out hb)
                  replace HD := Lib.hid (RC_below HD.out hb)
                  replace HB1 := Lib.hid (below_step (Nat.le_refl _) HB1.out hb)
                  have HFB : Hid (decide (0 < (cs.length : Int)) = decide (1 ≤ cs.length)) := by show _ = _; rw [decide_eq_decide]; omega
                  generalize hfb : decide (1 ≤ cs.length) = FB at *
                  have HFB2 := Lib.hid hfb
                  clear hlf hb HM hfb
                  go_wp2_with fail
                  -- the counts
                  have HM : Hid (∀ W, RC W (.slice pc cs.length cc) cs → Calls Try.prog 25 #[.slice pc cs.length cc, .float .f32 1065353216, .int .i64 32] W fun e w' => ∃ p c, e = .returned (.tuple #[.slice p 32 c, .bool true]) ∧ RI w' (.slice p 32 c) (cnt cs 1065353216 32 cs.length) ∧ Below W.heap.size W w') := fun W h => by
                    refine (i_CountCycles _ cs 1065353216 32 W h).mono ?_
                    rintro e w' ⟨u, rfl, hO, hb⟩
                    have hg : cntGood cs 1065353216 32 = true := by
                      unfold cntGood
                      rw [HF.out.are]
                      decide
                    rw [hg] at hO ⊢
                    rw [if_pos rfl] at hO
                    have hR := RI_of_own hO (by rw [cnt_length]; decide)
                    obtain ⟨p, c, rfl, h3⟩ := id hR
                    have hlen := cnt_length cs 1065353216 32 cs.length
                    rw [show (32 : Int).toNat = 32 from rfl, hlen] at hR ⊢
                    exact ⟨p, c, rfl, hR, hb⟩
                  refine (HM.out _ HC.out).mono ?_
                  rintro e w8 ⟨pn, cn, rfl, hR, hb⟩
                  have HN := Lib.hid hR
                  replace HC := Lib.hid (RC_below HC.out hb)
                  replace HD := Lib.hid (RC_below HD.out hb)
                  replace HB1 := Lib.hid (below_step (Nat.le_refl _) HB1.out hb)
                  have HNB := Lib.hid (cnt_le cs 1065353216 32 cs.length)
                  have HNS := Lib.hid HF.out.sum
                  rw [HH.out] at HNS
                  have HNL := Lib.hid (cnt_length cs 1065353216 32 cs.length)
                  generalize cnt cs 1065353216 32 cs.length = ns at *
                  clear hR hb HM
                  go_wp2_with fail
                  go_loopw [25, 234] (fun s i wr => ∃ j q : Nat, j ≤ 32 ∧ i = .int .i64 (j : Int) ∧ s = .int .i64 (sumTo ns j) ∧ wr = w8.drewN q) (fun _ i _ => 32 - (intOf i).toNat)
                  case atStart => exact ⟨0, 0, Nat.zero_le _, rfl, rfl, rfl⟩
                  case round =>
                    obtain ⟨j, q2, hj, rfl, rfl, rfl⟩ := hrel
                    by_cases hlt : j < 32
                    ·
                      obtain ⟨bn, on, rfl, c1⟩ := RI_atD HN.out (i := j) (by rw [HNL.out]; exact hlt)
                      have HS : Hid (sumTo ns (j + 1) = sumTo ns j + ns.getD j 0) := rfl
                      obtain ⟨g1, g2⟩ := sumTo_pos (by omega) HNB.out (j + 1)
                      have hcl := HF.out.len
                      have g3 : 2 * (cs.length : Int) * ((j + 1 : Nat) : Int) ≤ 2 * 16 * 32 := Int.mul_le_mul (by omega) (by omega) (by omega) (by omega)
                      rw [HS.out] at g1 g2
                      generalize hs2 : sumTo ns (j + 1) = S2 at *
                      have HS2 := Lib.hid hs2
                      clear hs2
                      generalize sumTo ns j = S1 at *
                      generalize ns.getD j 0 = Z at *
                      have r3 : (j : Int) < 32 := by omega
                      have HLT := Lib.hid hlt
                      have hw : IntKind.i64.wrap (S1 + Z) = S1 + Z := by rw [IntKind.wrap_i64]; omega
                      clear hj hlt g1 g2 g3 hcl
                      go_wp2_with fail
                      go_roundw
                      case rel => exact ⟨j + 1, _, HLT.out, by go_num, by rw [HS2.out, HS.out], rfl⟩
                      case measure => have := HLT.out; simp [intOf]; omega
                    · obtain rfl : j = 32 := by omega
                      rw [HNS.out]
                      have hfb := HFB.out
                      have hfb2 : decide (0 < cs.length) = FB := by rw [← hfb, decide_eq_decide]; omega
                      clear hj hlt
                      go_wp2_with fail
                      go_loopw [271] (fun i wr => ∃ j q : Nat, j ≤ cs.length ∧ i = .int .i64 (j : Int) ∧ wr = w8.drewN q) (fun i _ => cs.length - (intOf i).toNat)
                      case atStart => exact ⟨0, q2, Nat.zero_le _, rfl, rfl⟩
                      case round =>
                        obtain ⟨j, q3, hj, rfl, rfl⟩ := hrel
                        by_cases hlt : j < cs.length
                        · obtain ⟨bc, oc, rfl, a1, a2, a3⟩ := RC_atD HC.out hlt
                          obtain ⟨bd, od, rfl, b1, b2, b3⟩ := RC_atD HD.out (i := j) (by rw [HF.out.back]; exact hlt)
                          obtain ⟨-, -, -, dw, R, rv1, rv2⟩ := HF.out.cyc j hlt
                          have dg := HLF.out.ge j hlt
                          have de := HLF.out.at' j hlt
                          have er : rngAt cs j = rng (cs.getD j zeroCyc) := rfl
                          rw [er] at dg de
                          have do' : FloatKind.f32.format.order (rng (ds.getD j zeroCyc)) (rng (cs.getD j zeroCyc)) = some .eq := by
                            rw [order_q rv2 rv1, if_neg Rat.lt_irrefl, if_pos rfl]
                          have s1 := run_arith (P := Try.prog) 26 (show Rv .f32 (fa .sub .f32 (cs.getD j zeroCyc).hi (cs.getD j zeroCyc).lo) _ from rv1)
                          have s2 := run_arith (P := Try.prog) 26 (show Rv .f32 (fa .sub .f32 (ds.getD j zeroCyc).hi (ds.getD j zeroCyc).lo) _ from rv2)
                          change FloatKind.f32.format.order (fa .sub .f32 (ds.getD j zeroCyc).hi (ds.getD j zeroCyc).lo) (fa .sub .f32 (cs.getD j zeroCyc).hi (cs.getD j zeroCyc).lo) = some .eq at do'
                          change (FloatKind.f32.format.order (fa .sub .f32 (cs.getD j zeroCyc).hi (cs.getD j zeroCyc).lo) M == some .gt) = false at dg
                          change (j : Int) = I → FloatKind.f32.format.order (fa .sub .f32 (cs.getD j zeroCyc).hi (cs.getD j zeroCyc).lo) M = some .eq at de
                          have r3 : (j : Int) < (cs.length : Int) := by omega
                          have hl16 : j < 16 := by have := HF.out.len; omega
                          have HLT := Lib.hid hlt
                          clear rv1 rv2 er hj hlt
                          generalize cs.getD j zeroCyc = c at *
                          generalize ds.getD j zeroCyc = d at *
                          obtain ⟨l, h, wh⟩ := c
                          obtain ⟨l', h', wh'⟩ := d
                          obtain rfl : wh' = wh := dw
                          generalize fa .sub .f32 (Cyc.mk l h wh').hi (Cyc.mk l h wh').lo = A at *
                          generalize fa .sub .f32 (Cyc.mk l' h' wh').hi (Cyc.mk l' h' wh').lo = B at *
                          replace s1 : ∀ w, (binOp .sub 26 (.float .f32 h) (.float .f32 l)).run Try.prog w = .ok (.float .f32 A) w := s1
                          replace s2 : ∀ w, (binOp .sub 26 (.float .f32 h') (.float .f32 l')).run Try.prog w = .ok (.float .f32 B) w := s2
                          replace a1 : w8.cell? ⟨bc, oc + j * 3, none⟩ = some (.float .f32 l) := a1
                          replace a2 : w8.cell? ⟨bc, oc + j * 3 + 1, none⟩ = some (.float .f32 h) := a2
                          replace a3 : w8.cell? ⟨bc, oc + j * 3 + 2, none⟩ = some (.bool wh') := a3
                          replace b1 : w8.cell? ⟨bd, od + j * 3, none⟩ = some (.float .f32 l') := b1
                          replace b2 : w8.cell? ⟨bd, od + j * 3 + 1, none⟩ = some (.float .f32 h') := b2
                          replace b3 : w8.cell? ⟨bd, od + j * 3 + 2, none⟩ = some (.bool wh') := b3
                          have hwh : (wh' != wh') = false := by simp
                          skip
                          by_cases hI : (j : Int) = I
                          · replace de := de hI
                            subst hI
                            clear dg hfb hfb2
                            go_wp2_with fail
                            go_quiet (fail)
                            go_wp2_with fail
                            go_quiet (fail)
                            go_wp2_with fail
                            go_roundw
                            case rel => exact ⟨j + 1, _, HLT.out, by go_num, rfl⟩
                            case measure => have := HLT.out; simp [intOf]; omega
                          · have hne : ((j : Int) == I) = false := by simpa using hI
                            clear de hI hfb hfb2
                            go_wp2_with fail
                            go_quiet (fail)
                            go_wp2_with fail
                            go_quiet (fail)
                            go_wp2_with fail
                            go_roundw
                            case rel => exact ⟨j + 1, _, HLT.out, by go_num, rfl⟩
                            case measure => have := HLT.out; simp [intOf]; omega
                        · obtain rfl : j = cs.length := by omega
                          have s1 := run_arith (P := Try.prog) 26 HF.out.sub
                          clear hfb hfb2 hj hlt
                          cases FB
                          · go_wp2
                            go_ret
                            exact ⟨rfl, below_drewN HB1.out _⟩
                          · have hal := HLF.out.all (of_decide_eq_true HFB2.out)
                            go_wp2
                            go_ret
                            exact ⟨rfl, below_drewN HB1.out _⟩
set_option maxRecDepth 100000 in
theorem FnCycles_lifted (os : Os) (started : os.Started) (H : Type) (enc : TypeId × Value → H) :
    ReturnsInHanded {} Try.checked os 5 .any (Rows.fnCyclesSpec.pre6 enc Try.prog Try.f5 Rows.fnCyclesRow.domain false) (Rows.fnCyclesSpec.post enc Try.prog Try.f5 false true false false) := by
  refine returnsInHanded_of_change_sized (C := Try.checked) Try.own started (by as_aux_lemma => kernel_rfl) Try.func5
    (ChangeSpec.witness6 (enc := enc) (C := Try.checked) false ⟨#[], #[.slice none 0 0, .slice none 0 0], []⟩ 8 (by as_aux_lemma => kernel_rfl) (by as_aux_lemma => kernel_rfl) (by as_aux_lemma => kernel_rfl) (by as_aux_lemma => kernel_rfl)) ?_
  intro W base args ds gs before hval0 hW hcnd0 hsz0 _
  have hval : ∀ (j : Nat) t v, Try.f5.params[j]? = some t → args[j]? = some v → Value.okWide Try.prog W .any base t v := hval0
  have hsz : (DataW.weightsEach Try.prog (Try.f5.params.toList ++ Rows.fnCyclesSpec.plain.varTypes Try.prog) (ds ++ gs)).all (· ≤ reachBytes) = true := hsz0
  have hW' := hW
  obtain ⟨p, q, hA0, hV, rfl, hfz, hnd⟩ := hW
  have hA : DataW.TrodAll enc Try.prog W 0 (fun _ => true) true Try.f5.params.toList args.toList ds p := hA0
  rw [Try.params5] at hA hval hsz
  obtain ⟨rfl, rfl⟩ := trodVars_none hV
  obtain ⟨v0, vs0, d0, ds0, p0, q0, ha0, rfl, rfl, h0, r0⟩ := trodAll_cons hA
  obtain ⟨v1, vs1, d1, ds1, p1, q1, rfl, rfl, rfl, h1, r1⟩ := trodAll_cons r0
  obtain ⟨rfl, rfl, rfl⟩ := trodAll_nil r1
  obtain rfl : args = #[v0, v1] := by apply Array.ext'; exact ha0
  obtain ⟨v, R_v⟩ := open_RB (hval 0 _ v0 rfl rfl) h0
  obtain ⟨u, R_u⟩ := open_RB (hval 1 _ v1 rfl rfl) h1
  refine (l_FnCycles v0 v1 v u W R_v R_u).mono fun e W' ⟨he, hb⟩ => ?_
  subst he
  exact ⟨_, rfl, post_law Try.laidOut (by as_aux_lemma => kernel_rfl) rfl Try.underlying4 hW' rfl ⟨rfl, rfl, rfl⟩ hb⟩

theorem FnCycles_holds : Rows.FnCyclesSaid :=
  OpenClaim.holds_of_wide 5 Try.f5 rfl rfl rfl rfl rfl rfl rfl ⟨rfl, rfl, rfl, rfl, rfl⟩ rfl rfl rfl rfl rfl (by as_aux_lemma => kernel_rfl) Try.func5 (by as_aux_lemma => kernel_rfl)
    (of_decide_eq_true (by as_aux_lemma => kernel_rfl)) (by unfold Func.isWrapper; rw [if_neg (of_decide_eq_false (by as_aux_lemma => kernel_rfl))]; exact ⟨rfl, rfl⟩)
    (fun os started H enc _ => FnCycles_lifted os started H enc)
end Go.Proofs.Ytmpmnhnobgidoaa
