/- Walks: runs of towers. -/
import Derived.Test.YtmpmnhnobgidoaaG
namespace Go.Proofs.Ytmpmnhnobgidoaa
set_option linter.unusedSimpArgs false
set_option linter.unusedVariables false
open Go.RowKit Go.Fl

theorem stepV_cn (m d s p v f t : Nat) : stepV m d s (cn .f32 p) (cn .f32 v) f t = stepV m d s p v f t := by simp only [stepV, fa_cn_left, fa_cn_right]
theorem stepP_cn (m d s p v f t : Nat) : stepP m d s (cn .f32 p) (cn .f32 v) f t = stepP m d s p v f t := by simp only [stepP, stepV, fa_cn_left, fa_cn_right]
theorem stepV_congr {m d s p v p' v' f t : Nat} (hp : cn .f32 p = cn .f32 p') (hv : cn .f32 v = cn .f32 v') : stepV m d s p v f t = stepV m d s p' v' f t := by rw [← stepV_cn, hp, hv, stepV_cn]
theorem stepP_congr {m d s p v p' v' f t : Nat} (hp : cn .f32 p = cn .f32 p') (hv : cn .f32 v = cn .f32 v') : stepP m d s p v f t = stepP m d s p' v' f t := by rw [← stepP_cn, hp, hv, stepP_cn]
theorem cn_stepP (m d s p v f t : Nat) : cn .f32 (stepP m d s p v f t) = stepP m d s p v f t := cn_fa _ _ _ _
theorem cn_stepV (m d s p v f t : Nat) : cn .f32 (stepV m d s p v f t) = stepV m d s p v f t := cn_fa _ _ _ _
/-- Where a tower is, and how fast, behind the first k forces. -/
def runAt (m d s t p v : Nat) (fs : List Nat) : Nat → Nat × Nat
  | 0 => (p, v)
  | k + 1 => (stepP m d s (runAt m d s t p v fs k).1 (runAt m d s t p v fs k).2 (fs.getD k 0) t, stepV m d s (runAt m d s t p v fs k).1 (runAt m d s t p v fs k).2 (fs.getD k 0) t)
def runOk (m d s t p v : Nat) (fs : List Nat) (k : Nat) : Bool := fin .f32 (fs.getD k 0) && fin .f32 (runAt m d s t p v fs (k + 1)).1 && fin .f32 (runAt m d s t p v fs (k + 1)).2
def places (m d s t p v : Nat) (fs : List Nat) (k : Nat) : List Nat := (List.range k).map fun i => (runAt m d s t p v fs (i + 1)).1
theorem places_succ (m d s t p v : Nat) (fs : List Nat) (k : Nat) : places m d s t p v fs (k + 1) = places m d s t p v fs k ++ [(runAt m d s t p v fs (k + 1)).1] := by simp [places, List.range_succ]
def runPre (m d s t p v n : Nat) : Bool := towerOk m d s && fin .f32 p && fin .f32 v && above t && decide (n ≤ 64)
def runAll (m d s t p v : Nat) (fs : List Nat) (k : Nat) : Bool := (List.range k).all (runOk m d s t p v fs)
theorem runAll_succ (m d s t p v : Nat) (fs : List Nat) (k : Nat) : runAll m d s t p v fs (k + 1) = (runAll m d s t p v fs k && runOk m d s t p v fs k) := by simp [runAll, List.range_succ]
theorem runAll_false {m d s t p v : Nat} {fs : List Nat} {k n : Nat} (hk : k < n) (h : runOk m d s t p v fs k = false) : runAll m d s t p v fs n = false := by
  unfold runAll
  rw [List.all_eq_false]
  exact ⟨k, by simpa using hk, by rw [h]; decide⟩
def runGood (m d s t p v : Nat) (fs : List Nat) : Bool := runPre m d s t p v fs.length && runAll m d s t p v fs fs.length
theorem OF_base {B B' : Nat} {w : World} {v : Value} {xs : List Nat} (h : OF B w v xs) (hB : B' ≤ B) : OF B' w v xs := by
  obtain ⟨hl, h⟩ := h
  refine ⟨hl, ?_⟩
  rcases h with h | ⟨g, cap, cur, e, hb, rest⟩
  · exact .inl h
  · exact .inr ⟨g, cap, cur, e, Nat.le_trans hB hb, rest⟩
set_option maxHeartbeats 2000000 in
theorem i_RunTower (m d s p v t : Nat) (vf : Value) (fs : List Nat) (w : World) (hx : RF w vf fs) (hl : fs.length ≤ 1048576) :
    Calls Try.prog 32 #[tow m d s, .float .f32 p, .float .f32 v, vf, .float .f32 t] w (ListOut (runGood m d s t p v fs) (places m d s t p v fs fs.length) w) := by
  obtain ⟨p1, cap1, rfl, hm1, hc1⟩ := id hx
  have HC1 := Lib.hid hc1
  clear hx hc1
  by_cases h64 : fs.length ≤ 64
  case neg =>
    have hd : decide ((64 : Int) < (fs.length : Int)) = true := by simp; omega
    have hng : runGood m d s t p v fs = false := by simp [runGood, runPre, h64]
    have HNG := Lib.hid hng
    clear hng
    go_enter Try.func32, Try.ntmps32
    go_wp2_with (first | (go_at_call 30; refine (i_ValidTower _ _ _ _).mono ?_; rintro e w' ⟨rfl, hb⟩; have hT := TowAt.below (b := w.heap.size) (m := m) (d := d) (s := s) (by first | exact tow_top _ _ (by simp) _ _ _ _ | exact ⟨by assumption, by assumption, by assumption⟩) hb (by first | (simp; done) | exact block_lt_of_cell (by assumption)); obtain ⟨c0, c1, c2⟩ := hT; have hz : w.heap.size < _ := block_lt_of_cell c0) | (go_at_call 52; refine (i_areFinite _ [p, v] _ (RF_top2 _ _ (by simp) _ _ _)).mono ?_; rintro e w' ⟨rfl, n, rfl⟩))
    all_goals
      go_tidy
      go_ret2
      exact ListOut.no HNG.out (by repeat (first | exact Below.refl _ _ | assumption | refine below_drewN ?_ _ | refine below_alloc (Nat.le_refl _) ?_ _ | (refine Below.setCell ?_ (by first | exact Nat.le_refl _ | (simp; done) | (simp; omega) | omega) _) | (refine below_step (Nat.le_refl _) ?_ (by assumption))))
  have hd : decide ((64 : Int) < (fs.length : Int)) = false := by simp; omega
  cases hat : aboveAll [t]
  all_goals
    go_enter Try.func32, Try.ntmps32
    go_wp2_with (first | (go_at_call 30; refine (i_ValidTower _ _ _ _).mono ?_; rintro e w' ⟨rfl, hb⟩; have hT := TowAt.below (b := w.heap.size) (m := m) (d := d) (s := s) (by first | exact tow_top _ _ (by simp) _ _ _ _ | exact ⟨by assumption, by assumption, by assumption⟩) hb (by first | (simp; done) | exact block_lt_of_cell (by assumption)); obtain ⟨c0, c1, c2⟩ := hT; have hz : w.heap.size < _ := block_lt_of_cell c0) | (go_at_call 52; refine (i_areFinite _ [p, v] _ (RF_top2 _ _ (by simp) _ _ _)).mono ?_; rintro e w' ⟨rfl, n, rfl⟩) | (go_at_call 57; refine (i_arePositive _ [t] _ (RF_top1 _ _ (by simp) _ _)).mono ?_; rintro e w' ⟨rfl, n, rfl⟩))
    all_goals first
      | (go_tidy
         go_ret2
         exact ListOut.no (by cases hb0 : towerOk m d s <;> cases hb1 : fin .f32 p <;> cases hb2 : fin .f32 v <;> cases hb3 : above t <;> simp_all [runGood, runPre, finAll, aboveAll]) (by repeat (first | exact Below.refl _ _ | assumption | refine below_drewN ?_ _ | refine below_alloc (Nat.le_refl _) ?_ _ | (refine Below.setCell ?_ (by first | exact Nat.le_refl _ | (simp; done) | (simp; omega) | omega) _) | (refine below_step (Nat.le_refl _) ?_ (by assumption)))))
      | skip
  have HG : Hid (runPre m d s t p v fs.length = true) := by show _ = _; unfold runPre; simp_all [finAll, aboveAll]
  clear hd
  have HPre : Hid (towerOk m d s = true ∧ fin .f32 p = true ∧ fin .f32 v = true ∧ above t = true) := by show _ ∧ _; have := HG.out; unfold runPre at this; simp_all
  go_loopw [1, 2, 12, 40] (fun tp tv to i wr => ∃ (k a b : Nat) (zs : List Nat), k ≤ fs.length ∧ i = .int .i64 k ∧ tp = .float .f32 a ∧ tv = .float .f32 b ∧ Hid (cn .f32 a = cn .f32 (runAt m d s t p v fs k).1) ∧ Hid (cn .f32 b = cn .f32 (runAt m d s t p v fs k).2) ∧ Hid (fin .f32 a = true ∧ fin .f32 b = true) ∧
      OF (w.heap.size + 1) wr to zs ∧ FEq zs (places m d s t p v fs k) ∧ runAll m d s t p v fs k = true ∧ TowAt wr w.heap.size m d s ∧ Below w.heap.size w wr) (fun _ _ _ i _ => fs.length - (intOf i).toNat)
  case atStart => exact ⟨0, p, v, [], Nat.zero_le _, rfl, rfl, rfl, rfl, rfl, ⟨HPre.out.2.1, HPre.out.2.2.1⟩, OF_empty _ _ _ (by simp) (by simp; omega) _ rfl, rfl, rfl, TowAt.below (B := w'.heap.size) ⟨c0, c1, c2⟩ (by repeat (first | exact Below.refl _ _ | assumption | refine below_drewN ?_ _ | refine below_alloc (Nat.le_refl _) ?_ _ | (refine Below.setCell ?_ (by first | exact Nat.le_refl _ | (simp; done) | (simp; omega) | omega) _) | (refine below_step (Nat.le_refl _) ?_ (by assumption)))) hz, (by repeat (first | exact Below.refl _ _ | assumption | refine below_drewN ?_ _ | refine below_alloc (Nat.le_refl _) ?_ _ | (refine Below.setCell ?_ (by first | exact Nat.le_refl _ | (simp; done) | (simp; omega) | omega) _) | (refine below_step (Nat.le_refl _) ?_ (by assumption))))⟩
  case round =>
    clear c0 c1 c2 hb hz
    obtain ⟨k, a, b, zs, hk, rfl, rfl, rfl, ha, hb', hfin, hown, hz, hall, htow, hb⟩ := hrel
    by_cases hlt : k < fs.length
    · obtain ⟨b1, o1, rfl, hcell1⟩ := HC1.out.resolve_left (by omega)
      have g1 : w.cell? ⟨b1, o1 + k, none⟩ = some (.float .f32 fs[k]) := hcell1 k _ (by simp [hlt])
      have g1 := (hb.cell (p := ⟨b1, o1 + k, none⟩) (block_lt_of_cell g1)).trans g1
      have HK : Hid (fs.getD k 0 = fs[k]) := by show _ = _; simp [hlt]
      have HZ := Lib.hid hz
      have HA := Lib.hid hall
      have HB := Lib.hid hb
      have HO := Lib.hid hown
      have HT := Lib.hid htow
      have hzl : zs.length ≤ 1048576 := by have := hz.length; simp [places] at this; omega
      obtain ⟨c0, c1, c2⟩ := htow
      have HZ0 : w.heap.size < wr.heap.size := block_lt_of_cell c0
      have hP : Hid (cn .f32 (stepP m d s a b fs[k] t) = cn .f32 (runAt m d s t p v fs (k + 1)).1) := by show _ = _; unfold runAt; rw [HK.out]; exact congrArg _ (stepP_congr ha.out hb'.out)
      have hV : Hid (cn .f32 (stepV m d s a b fs[k] t) = cn .f32 (runAt m d s t p v fs (k + 1)).2) := by show _ = _; unfold runAt; rw [HK.out]; exact congrArg _ (stepV_congr ha.out hb'.out)
      have HEQ : Hid ((stepGood m d s a b fs[k] t && (fin .f32 (stepP m d s a b fs[k] t) && fin .f32 (stepV m d s a b fs[k] t))) = runOk m d s t p v fs k) := by
        show _ = _
        unfold stepGood runOk
        rw [HK.out, fin_congr hP.out, fin_congr hV.out, HPre.out.1, HPre.out.2.2.2, hfin.out.1, hfin.out.2]
        simp [Bool.and_assoc]
      clear hcell1 hz hall hb hown
      cases hok : runOk m d s t p v fs k
      all_goals
        have HOK := Lib.hid hok
        clear hok
        go_wp2_with fail
        refine (i_StepTower m d s a b fs[k] t _).mono ?_
        rintro e w1 ⟨r, q, rfl, hr, hq, hb1⟩
        rw [HEQ.out, HOK.out] at hr hq
        rw [HEQ.out, HOK.out]
      · go_wp2
        go_ret2
        refine ListOut.no ?_ (below_step (Nat.le_refl _) HB.out hb1)
        unfold runGood
        rw [runAll_false hlt HOK.out, Bool.and_false]
      · have hr' : Hid (cn .f32 r = cn .f32 (runAt m d s t p v fs (k + 1)).1) := by show _ = _; rw [← hP.out]; exact hr
        have hq' : Hid (cn .f32 q = cn .f32 (runAt m d s t p v fs (k + 1)).2) := by show _ = _; rw [← hV.out]; exact hq
        clear hr hq
        have Hb1 := Lib.hid hb1
        have HS := hb1.size
        clear hb1
        go_wp2_with (at_builtin; refine wpList_appF (w.heap.size + 1) zs r rfl rfl rfl rfl ?_ ?_ hzl ?_ ?_)
        case _ => have hb1 := Hb1.out; exact OF_below (OF_below HO.out hb1) (by repeat (first | exact Below.refl _ _ | assumption | refine below_drewN ?_ _ | refine below_alloc (Nat.le_refl _) ?_ _ | (refine Below.setCell ?_ (by first | exact Nat.le_refl _ | (simp; done) | (simp; omega) | omega) _) | (refine below_step (Nat.le_refl _) ?_ (by assumption))))
        case _ => exact cell_top1 _ _ (by simp) _ _
        case _ => have := HZ0; simp; omega
        intro u w2 h1 h2
        have H1 := Lib.hid h1
        have H2 := Lib.hid h2
        clear h1 h2
        go_wp2
        go_roundw
        case rel =>
          have ho := HOK.out
          unfold runOk at ho
          simp only [Bool.and_eq_true] at ho
          refine ⟨k + 1, _, _, _, by omega, by go_num, rfl, rfl, hr', hq', ⟨by rw [fin_congr hr'.out]; exact ho.1.2, by rw [fin_congr hq'.out]; exact ho.2⟩, H1.out, ?_, ?_, ?_, ?_⟩
          · rw [places_succ]; exact HZ.out.snoc hr'.out
          · rw [runAll_succ, HA.out, HOK.out]; rfl
          · have hb1 := Hb1.out
            exact TowAt.below (B := w.heap.size + 1) (TowAt.below (B := w1.heap.size) (TowAt.below HT.out hb1 HZ0) (by repeat (first | exact Below.refl _ _ | assumption | refine below_drewN ?_ _ | refine below_alloc (Nat.le_refl _) ?_ _ | (refine Below.setCell ?_ (by first | exact Nat.le_refl _ | (simp; done) | (simp; omega) | omega) _) | (refine below_step (Nat.le_refl _) ?_ (by assumption)))) (by omega)) H2.out (Nat.lt_succ_self _)
          · have hb1 := below_step (Nat.le_refl _) HB.out Hb1.out
            exact Below.trans (by repeat (first | exact Below.refl _ _ | assumption | refine below_drewN ?_ _ | refine below_alloc (Nat.le_refl _) ?_ _ | (refine Below.setCell ?_ (by first | exact Nat.le_refl _ | (simp; done) | (simp; omega) | omega) _) | (refine below_step (Nat.le_refl _) ?_ (by assumption)))) (H2.out.mono (Nat.le_succ _))
        case measure => simp [intOf]; omega
    · obtain rfl : k = fs.length := by omega
      have HA := Lib.hid hall
      clear hall htow
      go_wp2
      go_ret2
      exact ListOut.ok (by unfold runGood; rw [HG.out, HA.out]; rfl) (OF_base hown (Nat.le_succ _)) hz hb
end Go.Proofs.Ytmpmnhnobgidoaa
