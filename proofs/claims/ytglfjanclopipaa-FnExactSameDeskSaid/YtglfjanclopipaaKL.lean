/- Walks: what a valid rotor is, the other's. -/
import Derived.Test.YtglfjanclopipaaKK
namespace Go.Proofs.Ytglfjanclopipaa
set_option linter.unusedSimpArgs false
set_option linter.unusedVariables false
open Go.RowKit Go.Fl Go.Lib

theorem aboveAll_one (x : Nat) : aboveAll [x] = above x := by unfold aboveAll; simp
set_option maxRecDepth 100000 in
set_option maxHeartbeats 4000000 in
theorem i_ValidRotor (va vl vd vs : Value) (a l d : List Nat) (cs : List Sta) (c : Int) (hub tip : Nat) (w : World) (ha : RF w va a) (hl : RF w vl l) (hd : RF w vd d) (hs : RT w vs cs) :
    Calls Try.prog 36 #[rotV va vl vd vs c hub tip] w fun e' w' => e' = .returned (.bool (rotOk (profOk a l d) cs c hub tip)) ∧ Below w.heap.size w w' := by
  have A0 := Lib.hid (fun W (hb : Below w.heap.size w W) => i_ValidProfile va vl vd a l d W (RF_below ha hb) (RF_below hl hb) (RF_below hd hb))
  obtain ⟨ps, cs', rfl, hms, hcs⟩ := hs
  have HC := Lib.hid hcs
  have A1 := Lib.hid (fun W => i_withinT c 1 6 W)
  have A2 := Lib.hid (fun W => i_isLeast hub W)
  have A3 := Lib.hid (fun W => i_IsFinite tip W)
  have HNO : Hid (∀ b, rotPre (profOk a l d) cs c hub tip = b → b = false → rotOk (profOk a l d) cs c hub tip = false) := fun b h1 h2 => rotOk_no (h1.trans h2)
  have HYE := Lib.hid (fun h => rotOk_yes (po := profOk a l d) (cs := cs) (c := c) (hub := hub) (tip := tip) h)
  have HPR : Hid (rotPre (profOk a l d) cs c hub tip = (profOk a l d && decide (2 ≤ cs.length) && decide (cs.length ≤ 12) && inB c 1 6 && least hub && fin .f32 tip)) := rfl
  clear hcs ha hl hd
  generalize rotOk (profOk a l d) cs c hub tip = D at *
  generalize rotPre (profOk a l d) cs c hub tip = R at *
  generalize profOk a l d = K0 at *
  generalize inB c 1 6 = K1 at *
  generalize least hub = K2 at *
  generalize fin .f32 tip = K3 at *
  go_enter Try.func36, Try.ntmps36
  go_wp2_with fail
  refine (A0.out _ (below_alloc (Nat.le_refl _) (Below.refl _ _) _)).mono ?_
  rintro e' w1 ⟨rfl, hb⟩
  have HR := Lib.hid ((rot_top w _ rfl va vl vd (.slice ps cs.length cs') c hub tip 44).below hb)
  have HB1 : Hid (Below w.heap.size w w1) := below_step (Nat.le_refl _) (below_alloc (Nat.le_refl _) (Below.refl _ _) _) hb
  obtain ⟨-, h3, h4, h5, h6⟩ := HR.out
  obtain ⟨g, hg⟩ : ∃ g, g = w.heap.size := ⟨_, rfl⟩
  rw [← hg] at h3 h4 h5 h6 HR ⊢
  clear hb A0 hg
  cases K0
  · have e0 : Hid (D = false) := HNO.out _ HPR.out (by simp only [Bool.false_and])
    go_wp2
    go_ret
    exact ⟨by rw [e0.out]; rfl, HB1.out⟩
  cases K1
  · have e0 : Hid (D = false) := HNO.out _ HPR.out (by simp only [Bool.and_false, Bool.false_and])
    go_wp2_with (first | (go_at_call 79; with_reducible refine (A1.out _).mono ?_; rintro e2 w2 ⟨rfl, n2, rfl⟩))
    go_ret
    exact ⟨by rw [e0.out]; rfl, below_drewN HB1.out _⟩
  by_cases q0 : cs.length < 2
  · have e0 : Hid (D = false) := HNO.out _ HPR.out (by rw [show decide (2 ≤ cs.length) = false by simp; omega]; simp only [Bool.and_false, Bool.false_and])
    have q0' : (cs.length : Int) < 2 := by omega
    go_wp2_with (first | (go_at_call 79; with_reducible refine (A1.out _).mono ?_; rintro e2 w2 ⟨rfl, n2, rfl⟩))
    go_ret
    exact ⟨by rw [e0.out]; rfl, below_drewN HB1.out _⟩
  have q0' : ¬ (cs.length : Int) < 2 := by omega
  have q0b : decide (2 ≤ cs.length) = true := by simp; omega
  by_cases q1 : 12 < cs.length
  · have e0 : Hid (D = false) := HNO.out _ HPR.out (by rw [show decide (cs.length ≤ 12) = false by simp; omega]; simp only [Bool.and_false, Bool.false_and])
    have q1' : (12 : Int) < (cs.length : Int) := by omega
    clear q0b
    go_wp2_with (first | (go_at_call 79; with_reducible refine (A1.out _).mono ?_; rintro e2 w2 ⟨rfl, n2, rfl⟩))
    go_ret
    exact ⟨by rw [e0.out]; rfl, below_drewN HB1.out _⟩
  have q1' : ¬ (12 : Int) < (cs.length : Int) := by omega
  have q1b : decide (cs.length ≤ 12) = true := by simp; omega
  rw [q0b, q1b] at HPR
  clear q0b q1b
  cases K2
  · have e0 : Hid (D = false) := HNO.out _ HPR.out (by simp only [Bool.and_false, Bool.false_and])
    go_wp2_with (first | (go_at_call 79; with_reducible refine (A1.out _).mono ?_; rintro e2 w2 ⟨rfl, n2, rfl⟩) | (go_at_call 80; with_reducible refine (A2.out _).mono ?_; rintro e3 w3 ⟨rfl, n3, rfl⟩))
    go_ret
    exact ⟨by rw [e0.out]; rfl, by repeat (first | exact HB1.out | refine below_drewN ?_ _)⟩
  cases K3
  · have e0 : Hid (D = false) := HNO.out _ HPR.out (by simp only [Bool.and_false, Bool.false_and])
    go_wp2_with (first | (go_at_call 79; with_reducible refine (A1.out _).mono ?_; rintro e2 w2 ⟨rfl, n2, rfl⟩) | (go_at_call 80; with_reducible refine (A2.out _).mono ?_; rintro e3 w3 ⟨rfl, n3, rfl⟩) | (go_at_call 81; with_reducible refine (A3.out _).mono ?_; rintro e4 w4 ⟨rfl, n4, rfl⟩))
    go_ret
    refine ⟨by rw [e0.out]; rfl, ?_⟩
    repeat (first | exact HB1.out | refine below_drewN ?_ _)
  have HQ : Hid (D = (List.range cs.length).all (rotSta hub tip cs)) := HYE.out (by rw [HPR.out]; rfl)
  clear HYE HPR HNO
  go_wp2_with (first | (go_at_call 79; with_reducible refine (A1.out _).mono ?_; rintro e2 w2 ⟨rfl, n2, rfl⟩) | (go_at_call 80; with_reducible refine (A2.out _).mono ?_; rintro e3 w3 ⟨rfl, n3, rfl⟩) | (go_at_call 81; with_reducible refine (A3.out _).mono ?_; rintro e4 w4 ⟨rfl, n4, rfl⟩))
  clear A1 A2 A3 h3 h4 h5 h6 q0' q1'
  go_loopw [4, 6, 45] (fun b _ i wr => ∃ k : Nat, k ≤ cs.length ∧ i = .int .i64 k ∧ b = .float .f32 (befo hub cs k) ∧ Below w1.heap.size w1 wr ∧ ∀ j, j < k → rotSta hub tip cs j = true) (fun _ _ i _ => cs.length - (RowKit.intOf i).toNat)
  case atStart => exact ⟨0, Nat.zero_le _, rfl, rfl, by repeat (first | exact Below.refl _ _ | refine below_drewN ?_ _), fun j h => absurd h (Nat.not_lt_zero _)⟩
  case round =>
    obtain ⟨k, hk, rfl, rfl, hb, hn⟩ := hrel
    by_cases hlt : k < cs.length
    case neg =>
      have hk2 : k = cs.length := by omega
      have e0 : Hid (D = true) := by show _ = _; rw [HQ.out, range_all_true (fun j hj => hn j (by omega))]
      have HB := Lib.hid (below_step (Nat.le_refl _) HB1.out hb)
      clear hn hk hb
      subst hk2
      go_wp2
      go_ret
      exact ⟨by rw [e0.out]; rfl, HB.out⟩
    obtain ⟨bs, os, rfl, gs⟩ := HC.out.resolve_left (by omega)
    obtain ⟨m0, m1, m2⟩ := ((StaAt_of gs k hlt).below HB1.out).below hb
    have HX : Hid (∀ b, rotSta hub tip cs k = b → b = false → D = false) := fun b h1 h2 => by rw [HQ.out]; exact range_all_false k hlt (h1.trans h2)
    have HP : Hid (rotSta hub tip cs k = staOk (befo hub cs k) tip cs[k]) := by show _ = _; unfold rotSta; rw [getD_sta hlt]
    have HBN : Hid (befo hub cs (k + 1) = cs[k].ra) := by show (cs.getD k zeroSta).ra = _; rw [getD_sta hlt]
    have HN := Lib.hid hn
    obtain ⟨-, h3, h4, h5, h6⟩ := HR.out.below hb
    have h6 : ∀ o, (wr.alloc o).cell? ⟨g, 6, none⟩ = some (.float .f32 tip) := fun o => hcell_alloc h6 o
    have HB := Lib.hid hb
    clear hb gs hn h4 h5
    generalize cs[k] = s at *
    obtain ⟨ra, ch, tw⟩ := s
    simp only at m0 m1 m2
    have B1 := Lib.hid (fun (W : World) k (hk : k = W.heap.size) => by have := i_arePositive _ [ch] _ (RF_top1 W k hk ch 26); rw [aboveAll_one] at this; exact this)
    have B2 := Lib.hid (fun W => i_IsFinite tw W)
    have HP2 : Hid (rotSta hub tip cs k = (fgt .f32 ra (befo hub cs k) && flt .f32 ra tip && above ch && fin .f32 tw)) := HP.out
    clear HP
    generalize befo hub cs k = b at *
    generalize above ch = KC at *
    generalize fin .f32 tw = KF at *
    cases k1 : fgt .f32 ra b
    · have e0 : Hid (D = false) := HX.out _ HP2.out (by rw [k1]; rfl)
      unfold fgt at k1
      go_wp2
      go_ret
      exact ⟨by rw [e0.out]; rfl, below_step (Nat.le_refl _) HB1.out (by repeat (first | exact HB.out | refine below_drewN ?_ _ | refine below_alloc (Nat.le_refl _) ?_ _))⟩
    cases k2 : flt .f32 ra tip
    · have e0 : Hid (D = false) := HX.out _ HP2.out (by rw [k2]; simp only [Bool.and_false, Bool.false_and])
      unfold fgt at k1
      unfold flt at k2
      go_wp2
      go_ret
      exact ⟨by rw [e0.out]; rfl, below_step (Nat.le_refl _) HB1.out (by repeat (first | exact HB.out | refine below_drewN ?_ _ | refine below_alloc (Nat.le_refl _) ?_ _))⟩
    rw [k1, k2] at HP2
    unfold fgt at k1
    unfold flt at k2
    cases KC
    · have e0 : Hid (D = false) := HX.out _ HP2.out (by simp only [Bool.and_false, Bool.false_and])
      go_wp2_with (first | (go_at_call 82; with_reducible refine (B1.out _ _ (by simp)).mono ?_; rintro e2 w2 ⟨rfl, m2, rfl⟩))
      go_ret
      exact ⟨by rw [e0.out]; rfl, below_step (Nat.le_refl _) HB1.out (by repeat (first | exact HB.out | refine below_drewN ?_ _ | refine below_alloc (Nat.le_refl _) ?_ _))⟩
    cases KF
    · have e0 : Hid (D = false) := HX.out _ HP2.out (by simp only [Bool.and_false])
      go_wp2_with (first | (go_at_call 82; with_reducible refine (B1.out _ _ (by simp)).mono ?_; rintro e2 w2 ⟨rfl, m2, rfl⟩) | (go_at_call 81; with_reducible refine (B2.out _).mono ?_; rintro e3 w3 ⟨rfl, m3, rfl⟩))
      go_ret
      exact ⟨by rw [e0.out]; rfl, below_step (Nat.le_refl _) HB1.out (by repeat (first | exact HB.out | refine below_drewN ?_ _ | refine below_alloc (Nat.le_refl _) ?_ _))⟩
    go_wp2_with (first | (go_at_call 82; with_reducible refine (B1.out _ _ (by simp)).mono ?_; rintro e2 w2 ⟨rfl, m2, rfl⟩) | (go_at_call 81; with_reducible refine (B2.out _).mono ?_; rintro e3 w3 ⟨rfl, m3, rfl⟩))
    go_roundw
    case rel => exact ⟨k + 1, by omega, by go_num, by rw [HBN.out], by repeat (first | exact HB.out | refine below_drewN ?_ _ | refine below_alloc (Nat.le_refl _) ?_ _), fun j hj => by
      by_cases hjk : j < k
      · exact HN.out j hjk
      · obtain rfl : j = k := by omega
        rw [HP2.out]; rfl⟩
    case measure => simp [RowKit.intOf]; omega
end Go.Proofs.Ytglfjanclopipaa
