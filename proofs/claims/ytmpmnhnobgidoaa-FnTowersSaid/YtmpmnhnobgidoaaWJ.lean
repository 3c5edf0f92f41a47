/- Walks: CrossingsOf of the program. -/
import Derived.Test.YtmpmnhnobgidoaaWI
namespace Go.Proofs.Ytmpmnhnobgidoaa
set_option linter.unusedSimpArgs false
set_option linter.unusedVariables false
open Go.RowKit Go.Fl
set_option maxHeartbeats 8000000 in
theorem i_CrossingsOf (m d s : Nat) (v1 v2 : Value) (ms : List Int) (xs : List Nat) (w : World) (hm : RI w v1 ms) (hx : RF w v2 xs) : Calls Try.prog 36 #[tow m d s, v1, v2] w (CrossOut m d s ms xs w) := by
  have HX := Lib.hid hx
  obtain ⟨p1, cap1, rfl, hm1, hc1⟩ := hm
  obtain ⟨p2, cap2, rfl, hm2, hc2⟩ := hx
  have HC1 := Lib.hid hc1
  have HC2 := Lib.hid hc2
  clear hc1 hc2
  cases hok : towerOk m d s && fin .f32 (rate m s)
  · have HG : Hid (crossGood m d s ms xs = false) := by
      rcases Bool.and_eq_false_iff.1 hok with h | h
      · exact good_no1 (.inl h)
      · exact good_no1 (.inr (.inr (.inr (.inr (.inr h)))))
    have HK := Lib.hid hok
    clear hok
    go_enter Try.func36, Try.ntmps36
    go_wp2_with (go_at_call 27; refine (i_TowerRate m d s _).mono ?_; rintro e w' ⟨R, rfl, hr, hb⟩; rw [HK.out])
    go_ret2
    exact CrossOut.no HG.out (by repeat (first | exact Below.refl _ _ | assumption | refine below_drewN ?_ _ | refine below_alloc (Nat.le_refl _) ?_ _ | (refine Below.setCell ?_ (by first | exact Nat.le_refl _ | (simp; done) | (simp; omega) | omega) _) | (refine below_step (Nat.le_refl _) ?_ (by assumption))))
  have HK := Lib.hid hok
  clear hok
  by_cases hl1 : ms.length ≤ 32
  case neg =>
    have HG := Lib.hid (good_no1 (m := m) (d := d) (s := s) (ms := ms) (xs := xs) (.inr (.inl (by omega))))
    go_enter Try.func36, Try.ntmps36
    go_wp2_with (go_at_call 27; refine (i_TowerRate m d s _).mono ?_; rintro e w' ⟨R, rfl, hr, hb⟩; rw [HK.out])
    go_ret2
    exact CrossOut.no HG.out (by repeat (first | exact Below.refl _ _ | assumption | refine below_drewN ?_ _ | refine below_alloc (Nat.le_refl _) ?_ _ | (refine Below.setCell ?_ (by first | exact Nat.le_refl _ | (simp; done) | (simp; omega) | omega) _) | (refine below_step (Nat.le_refl _) ?_ (by assumption))))
  by_cases hl2 : xs.length ≤ 64
  case neg =>
    have HG := Lib.hid (good_no1 (m := m) (d := d) (s := s) (ms := ms) (xs := xs) (.inr (.inr (.inl (by omega)))))
    go_enter Try.func36, Try.ntmps36
    go_wp2_with (go_at_call 27; refine (i_TowerRate m d s _).mono ?_; rintro e w' ⟨R, rfl, hr, hb⟩; rw [HK.out])
    go_ret2
    exact CrossOut.no HG.out (by repeat (first | exact Below.refl _ _ | assumption | refine below_drewN ?_ _ | refine below_alloc (Nat.le_refl _) ?_ _ | (refine Below.setCell ?_ (by first | exact Nat.le_refl _ | (simp; done) | (simp; omega) | omega) _) | (refine below_step (Nat.le_refl _) ?_ (by assumption))))
  obtain ⟨hk1, hk2⟩ := Bool.and_eq_true_iff.1 HK.out
  have HTO := Lib.hid hk1
  have HF := Lib.hid hk2
  clear hk1 hk2
  go_enter Try.func36, Try.ntmps36
  go_wp2_with fail
  refine (i_TowerRate m d s _).mono ?_
  rintro e w1 ⟨R, rfl, hr, hb⟩
  rw [HK.out]
  have HR : Hid (cn .f32 R = cn .f32 (rate m s)) := by
    show _ = _
    rw [hr, HTO.out, if_pos rfl]; unfold num; rw [HF.out, if_pos rfl]
  have HB1 : Hid (Below w.heap.size w w1) := below_step (Nat.le_refl _) (show Below w.heap.size w (w.alloc _) from (by repeat (first | exact Below.refl _ _ | assumption | refine below_drewN ?_ _ | refine below_alloc (Nat.le_refl _) ?_ _ | (refine Below.setCell ?_ (by first | exact Nat.le_refl _ | (simp; done) | (simp; omega) | omega) _) | (refine below_step (Nat.le_refl _) ?_ (by assumption))))) hb
  clear hr hb
  cases haf : finAll xs
  · have HG := Lib.hid (good_no1 (m := m) (d := d) (s := s) (ms := ms) (xs := xs) (.inr (.inr (.inr (.inr (.inl haf))))))
    have HI := Lib.hid haf
    clear haf
    go_wp2_with (go_at_call 52; refine (i_areFinite _ xs _ (RF_below HX.out HB1.out)).mono ?_; rintro e w' ⟨rfl, n1, rfl⟩; rw [HI.out])
    go_ret2
    exact CrossOut.no HG.out (by have hb := HB1.out; exact (by repeat (first | exact Below.refl _ _ | assumption | refine below_drewN ?_ _ | refine below_alloc (Nat.le_refl _) ?_ _ | (refine Below.setCell ?_ (by first | exact Nat.le_refl _ | (simp; done) | (simp; omega) | omega) _) | (refine below_step (Nat.le_refl _) ?_ (by assumption)))))
  have HAF := Lib.hid haf
  clear haf
  go_wp2_with (go_at_call 52; refine (i_areFinite _ xs _ (RF_below HX.out HB1.out)).mono ?_; rintro e w' ⟨rfl, n1, rfl⟩; rw [HAF.out])
  go_loopw [39, 10] (fun i t w2 => ∃ (k : Nat) (us : List Value), k ≤ ms.length ∧ i = .int .i64 k ∧ OII w.heap.size w2.heap.size w2 t us (crossTo (rate m s) ms xs k) ∧ Below w.heap.size w w2 ∧ Hid (∀ j (hj : j < ms.length), j < k → inM ms[j] 1 12 = true)) (fun i _ _ => ms.length - (intOf i).toNat)
  case atStart => exact ⟨0, [], Nat.zero_le _, rfl, OII_empty _ _ _ (by simp) (by have := HB1.out.size; simp; omega) _ rfl _ (by simp), by have hb := HB1.out; exact (by repeat (first | exact Below.refl _ _ | assumption | refine below_drewN ?_ _ | refine below_alloc (Nat.le_refl _) ?_ _ | (refine Below.setCell ?_ (by first | exact Nat.le_refl _ | (simp; done) | (simp; omega) | omega) _) | (refine below_step (Nat.le_refl _) ?_ (by assumption)))), fun j _ h => absurd h (Nat.not_lt_zero _)⟩
  case round =>
    obtain ⟨k, us, hk, rfl, hoi, hb2, hno⟩ := hrel
    have HOI := Lib.hid hoi
    have HB3 := Lib.hid hb2
    clear hoi
    by_cases hlt : k < ms.length
    · obtain ⟨b1, o1, rfl, hcell1⟩ := HC1.out.resolve_left (by omega)
      have ha0 : w.cell? ⟨b1, o1 + k, none⟩ = some (.int .i64 ms[k]) := hcell1 k _ (by simp [hlt])
      have ha1 : wr.cell? ⟨b1, o1 + k, none⟩ = some (.int .i64 ms[k]) := (hb2.cell (p := ⟨b1, o1 + k, none⟩) (block_lt_of_cell ha0)).trans ha0
      have HN : Hid (inM ms[k] 1 12 = false → crossGood m d s ms xs = false) := fun h => good_no1 (.inr (.inr (.inr (.inl (allM_no hlt h)))))
      have HY : Hid (inM ms[k] 1 12 = true → ∀ j (hj : j < ms.length), j < k + 1 → inM ms[j] 1 12 = true) := fun h j hj h2 => by
        by_cases e : j = k
        · subst e; exact h
        · exact hno.out j hj (by omega)
      have HS := Lib.hid (crossTo_succ (rate m s) ms xs k hlt)
      have hcl := crossTo_len (rate m s) ms xs k
      have hcl2 : k * xs.length ≤ 32 * 64 := Nat.mul_le_mul (by omega) hl2
      clear hb2 hcell1 hno ha0
      generalize ms[k] = mk at *
      generalize crossTo (rate m s) ms xs k = zs at *
      cases hin : inM mk 1 12
      · have HG := Lib.hid (HN.out hin)
        have HI := Lib.hid hin
        clear HN HY hin
        go_wp2_with (go_at_call 58; refine (i_within _ _ _ _).mono ?_; rintro e w' ⟨rfl, n2, rfl⟩; rw [HI.out])
        go_ret2
        exact CrossOut.no HG.out (by have hb := HB3.out; exact (by repeat (first | exact Below.refl _ _ | assumption | refine below_drewN ?_ _ | refine below_alloc (Nat.le_refl _) ?_ _ | (refine Below.setCell ?_ (by first | exact Nat.le_refl _ | (simp; done) | (simp; omega) | omega) _) | (refine below_step (Nat.le_refl _) ?_ (by assumption)))))
      have HY2 := Lib.hid (HY.out hin)
      have HI := Lib.hid hin
      clear HN HY hin
      go_wp2_with (go_at_call 58; refine (i_within _ _ _ _).mono ?_; rintro e w' ⟨rfl, n2, rfl⟩; rw [HI.out])
      clear HI ha1
      go_loopw [13, 10] (fun i t w4 => ∃ (j : Nat) (us' : List Value), j ≤ xs.length - 1 ∧ i = .int .i64 j ∧ OII w.heap.size w4.heap.size w4 t us' (zs ++ crossRow (rate m s) mk k xs j) ∧ Below w.heap.size w w4) (fun i _ _ => xs.length - (intOf i).toNat)
      case atStart => exact ⟨0, us, Nat.zero_le _, rfl, by show OII _ _ _ _ _ (zs ++ []); rw [List.append_nil]; exact HOI.out.below (by repeat (first | exact Below.refl _ _ | assumption | refine below_drewN ?_ _ | refine below_alloc (Nat.le_refl _) ?_ _ | (refine Below.setCell ?_ (by first | exact Nat.le_refl _ | (simp; done) | (simp; omega) | omega) _) | (refine below_step (Nat.le_refl _) ?_ (by assumption)))), by have hb := HB3.out; exact (by repeat (first | exact Below.refl _ _ | assumption | refine below_drewN ?_ _ | refine below_alloc (Nat.le_refl _) ?_ _ | (refine Below.setCell ?_ (by first | exact Nat.le_refl _ | (simp; done) | (simp; omega) | omega) _) | (refine below_step (Nat.le_refl _) ?_ (by assumption))))⟩
      case round =>
        obtain ⟨j, us', hj, rfl, hoi, hb⟩ := hrel
        have HO4 := Lib.hid hoi
        have HB4 := Lib.hid hb
        have hcr := crossRow_len (rate m s) mk k xs j
        have hul : us'.length ≤ 3000 := by have := hoi.len; rw [List.length_append] at this; omega
        by_cases hjl : j + 1 < xs.length
        · obtain ⟨b2, o2, rfl, hcell2⟩ := HC2.out.resolve_left (by omega)
          have hx0 : w.cell? ⟨b2, o2 + j, none⟩ = some (.float .f32 xs[j]) := hcell2 j _ (by simp [show j < xs.length by omega])
          have hx1 : w.cell? ⟨b2, o2 + (j + 1), none⟩ = some (.float .f32 xs[j + 1]) := hcell2 (j + 1) _ (by simp [hjl])
          have hy0 : wr.cell? ⟨b2, o2 + j, none⟩ = some (.float .f32 xs[j]) := (hb.cell (p := ⟨b2, o2 + j, none⟩) (block_lt_of_cell hx0)).trans hx0
          have hy1 : wr.cell? ⟨b2, o2 + (j + 1), none⟩ = some (.float .f32 xs[j + 1]) := (hb.cell (p := ⟨b2, o2 + (j + 1), none⟩) (block_lt_of_cell hx1)).trans hx1
          have HRS := Lib.hid (crossRow_succ (rate m s) mk k xs j (by omega) hjl)
          have q1 : IntKind.i64.wrap ((j : Int) + 1) = (j : Int) + 1 := by rw [IntKind.wrap_i64]; omega
          have q2 : (0 : Int) ≤ (j : Int) + 1 := by omega
          have q3 : ((j : Int) + 1).toNat = j + 1 := by omega
          have q4 : (j : Int) + 1 < (xs.length : Int) := by omega
          have q5 : (j : Int) < (xs.length : Int) := by omega
          clear hx0 hx1 hcell2 hoi hb
          generalize xs[j] = x0 at *
          generalize xs[j + 1] = x1 at *
          cases c0 : lowM (rate m s) mk x0 <;> cases c1 : lowM (rate m s) mk x1 <;> rw [c0, c1] at HRS
          · have e := Lib.hid (show crossRow (rate m s) mk k xs (j + 1) = crossRow (rate m s) mk k xs j by rw [HRS.out]; simp)
            clear HRS
            go_wp2_with fail
            ((refine wp_region_rq_lit (fun _ _ _ => False) (by kernel_rfl) (by kernel_rfl) ?_); (iterate 6 (refine wpRq_det' (by kernel_rfl) (fun K hK => ?_); go_simp; refine hK _ ?_; clear hK K)); (refine wpRq_fa rfl rfl (by kernel_rfl) rfl rfl (by first | assumption | exact hrfl _) (by first | assumption | exact hrfl _) ?_; intro r hr); (have hA := lt_is (m := mk) (x := x0) (hr.out.trans (by unfold multOf; rw [fa_cn_left, fa_cn_right])) HR.out; rw [c0] at hA); (iterate 9 (refine wpRq_det' (by kernel_rfl) (fun K hK => ?_); go_simp; refine hK _ ?_; clear hK K)); (refine wpRq_fa rfl rfl (by kernel_rfl) rfl rfl (by first | assumption | exact hrfl _) (by first | assumption | exact hrfl _) ?_; intro r hr); (have hB := lt_is (m := mk) (x := x1) (hr.out.trans (by unfold multOf; rw [fa_cn_left, fa_cn_right])) HR.out; rw [c1] at hB); (iterate 3 (refine wpRq_det' (by kernel_rfl) (fun K hK => ?_); go_simp; refine hK _ ?_; clear hK K)); (refine wpRq_nil ?_); intro nq)
            clear c0 c1
            go_wp2_with fail
            go_roundw
            case rel => exact ⟨j + 1, us', by omega, by go_num, by rw [e.out]; exact HO4.out.below (by repeat (first | exact Below.refl _ _ | assumption | refine below_drewN ?_ _ | refine below_alloc (Nat.le_refl _) ?_ _ | (refine Below.setCell ?_ (by first | exact Nat.le_refl _ | (simp; done) | (simp; omega) | omega) _) | (refine below_step (Nat.le_refl _) ?_ (by assumption)))), by have hb := HB4.out; exact (by repeat (first | exact Below.refl _ _ | assumption | refine below_drewN ?_ _ | refine below_alloc (Nat.le_refl _) ?_ _ | (refine Below.setCell ?_ (by first | exact Nat.le_refl _ | (simp; done) | (simp; omega) | omega) _) | (refine below_step (Nat.le_refl _) ?_ (by assumption))))⟩
            case measure => simp [intOf]; omega
          · have e := Lib.hid (show crossRow (rate m s) mk k xs (j + 1) = crossRow (rate m s) mk k xs j ++ [[(k : Int), (j : Int)]] by rw [HRS.out]; simp)
            clear HRS
            go_wp2_with fail
            ((refine wp_region_rq_lit (fun _ _ _ => False) (by kernel_rfl) (by kernel_rfl) ?_); (iterate 6 (refine wpRq_det' (by kernel_rfl) (fun K hK => ?_); go_simp; refine hK _ ?_; clear hK K)); (refine wpRq_fa rfl rfl (by kernel_rfl) rfl rfl (by first | assumption | exact hrfl _) (by first | assumption | exact hrfl _) ?_; intro r hr); (have hA := lt_is (m := mk) (x := x0) (hr.out.trans (by unfold multOf; rw [fa_cn_left, fa_cn_right])) HR.out; rw [c0] at hA); (iterate 9 (refine wpRq_det' (by kernel_rfl) (fun K hK => ?_); go_simp; refine hK _ ?_; clear hK K)); (refine wpRq_fa rfl rfl (by kernel_rfl) rfl rfl (by first | assumption | exact hrfl _) (by first | assumption | exact hrfl _) ?_; intro r hr); (have hB := lt_is (m := mk) (x := x1) (hr.out.trans (by unfold multOf; rw [fa_cn_left, fa_cn_right])) HR.out; rw [c1] at hB); (iterate 3 (refine wpRq_det' (by kernel_rfl) (fun K hK => ?_); go_simp; refine hK _ ?_; clear hK K)); (refine wpRq_nil ?_); intro nq)
            clear c0 c1
            go_wp2_with (at_builtin; refine wpList_appII w.heap.size wr.heap.size us' (zs ++ crossRow (rate m s) mk k xs j) [(k : Int), (j : Int)] (ui := .slice (some ⟨wr.heap.size, 0, none⟩) 2 2) rfl rfl rfl rfl ?_ ?_ ?_ ?_ ?_ rfl (by omega) ?_ ?_ ?_)
            case _ => exact HO4.out.below (by repeat (first | exact Below.refl _ _ | assumption | refine below_drewN ?_ _ | refine below_alloc (Nat.le_refl _) ?_ _ | (refine Below.setCell ?_ (by first | exact Nat.le_refl _ | (simp; done) | (simp; omega) | omega) _) | (refine below_step (Nat.le_refl _) ?_ (by assumption))))
            case _ => exact cellV_top1 _ _ (by simp) _ _
            case _ => exact OI_below (OI_two w.heap.size (wr.drewN _) wr.heap.size (by simp) HB4.out.size _ rfl _ _) (by repeat (first | exact Below.refl _ _ | assumption | refine below_drewN ?_ _ | refine below_alloc (Nat.le_refl _) ?_ _ | (refine Below.setCell ?_ (by first | exact Nat.le_refl _ | (simp; done) | (simp; omega) | omega) _) | (refine below_step (Nat.le_refl _) ?_ (by assumption))))
            case _ =>
              intro i h1 q hq1 hq2
              have := HO4.out.top.2 i h1 q hq1
              simp only [Value.ownBlock, Option.some.injEq] at hq2
              omega
            case _ =>
              intro q hq1 hq2
              have := HO4.out.top.1 q hq1
              simp only [Value.ownBlock, Option.some.injEq] at hq2
              omega
            case _ => have := HB4.out.size; simp; omega
            case _ => simp; omega
            intro u5 w5 h5 hb5
            have H5 := Lib.hid h5
            have HB5 : Hid (Below w.heap.size w w5) := by have hb := HB4.out; exact Below.trans (by repeat (first | exact Below.refl _ _ | assumption | refine below_drewN ?_ _ | refine below_alloc (Nat.le_refl _) ?_ _ | (refine Below.setCell ?_ (by first | exact Nat.le_refl _ | (simp; done) | (simp; omega) | omega) _) | (refine below_step (Nat.le_refl _) ?_ (by assumption)))) hb5
            clear h5 hb5
            go_wp2
            go_roundw
            case rel => exact ⟨j + 1, _, by omega, by go_num, by rw [e.out]; exact H5.out, HB5.out⟩
            case measure => simp [intOf]; omega
          · have e := Lib.hid (show crossRow (rate m s) mk k xs (j + 1) = crossRow (rate m s) mk k xs j ++ [[(k : Int), (j : Int)]] by rw [HRS.out]; simp)
            clear HRS
            go_wp2_with fail
            ((refine wp_region_rq_lit (fun _ _ _ => False) (by kernel_rfl) (by kernel_rfl) ?_); (iterate 6 (refine wpRq_det' (by kernel_rfl) (fun K hK => ?_); go_simp; refine hK _ ?_; clear hK K)); (refine wpRq_fa rfl rfl (by kernel_rfl) rfl rfl (by first | assumption | exact hrfl _) (by first | assumption | exact hrfl _) ?_; intro r hr); (have hA := lt_is (m := mk) (x := x0) (hr.out.trans (by unfold multOf; rw [fa_cn_left, fa_cn_right])) HR.out; rw [c0] at hA); (iterate 9 (refine wpRq_det' (by kernel_rfl) (fun K hK => ?_); go_simp; refine hK _ ?_; clear hK K)); (refine wpRq_fa rfl rfl (by kernel_rfl) rfl rfl (by first | assumption | exact hrfl _) (by first | assumption | exact hrfl _) ?_; intro r hr); (have hB := lt_is (m := mk) (x := x1) (hr.out.trans (by unfold multOf; rw [fa_cn_left, fa_cn_right])) HR.out; rw [c1] at hB); (iterate 3 (refine wpRq_det' (by kernel_rfl) (fun K hK => ?_); go_simp; refine hK _ ?_; clear hK K)); (refine wpRq_nil ?_); intro nq)
            clear c0 c1
            go_wp2_with (at_builtin; refine wpList_appII w.heap.size wr.heap.size us' (zs ++ crossRow (rate m s) mk k xs j) [(k : Int), (j : Int)] (ui := .slice (some ⟨wr.heap.size, 0, none⟩) 2 2) rfl rfl rfl rfl ?_ ?_ ?_ ?_ ?_ rfl (by omega) ?_ ?_ ?_)
            case _ => exact HO4.out.below (by repeat (first | exact Below.refl _ _ | assumption | refine below_drewN ?_ _ | refine below_alloc (Nat.le_refl _) ?_ _ | (refine Below.setCell ?_ (by first | exact Nat.le_refl _ | (simp; done) | (simp; omega) | omega) _) | (refine below_step (Nat.le_refl _) ?_ (by assumption))))
            case _ => exact cellV_top1 _ _ (by simp) _ _
            case _ => exact OI_below (OI_two w.heap.size (wr.drewN _) wr.heap.size (by simp) HB4.out.size _ rfl _ _) (by repeat (first | exact Below.refl _ _ | assumption | refine below_drewN ?_ _ | refine below_alloc (Nat.le_refl _) ?_ _ | (refine Below.setCell ?_ (by first | exact Nat.le_refl _ | (simp; done) | (simp; omega) | omega) _) | (refine below_step (Nat.le_refl _) ?_ (by assumption))))
            case _ =>
              intro i h1 q hq1 hq2
              have := HO4.out.top.2 i h1 q hq1
              simp only [Value.ownBlock, Option.some.injEq] at hq2
              omega
            case _ =>
              intro q hq1 hq2
              have := HO4.out.top.1 q hq1
              simp only [Value.ownBlock, Option.some.injEq] at hq2
              omega
            case _ => have := HB4.out.size; simp; omega
            case _ => simp; omega
            intro u5 w5 h5 hb5
            have H5 := Lib.hid h5
            have HB5 : Hid (Below w.heap.size w w5) := by have hb := HB4.out; exact Below.trans (by repeat (first | exact Below.refl _ _ | assumption | refine below_drewN ?_ _ | refine below_alloc (Nat.le_refl _) ?_ _ | (refine Below.setCell ?_ (by first | exact Nat.le_refl _ | (simp; done) | (simp; omega) | omega) _) | (refine below_step (Nat.le_refl _) ?_ (by assumption)))) hb5
            clear h5 hb5
            go_wp2
            go_roundw
            case rel => exact ⟨j + 1, _, by omega, by go_num, by rw [e.out]; exact H5.out, HB5.out⟩
            case measure => simp [intOf]; omega
          · have e := Lib.hid (show crossRow (rate m s) mk k xs (j + 1) = crossRow (rate m s) mk k xs j by rw [HRS.out]; simp)
            clear HRS
            go_wp2_with fail
            ((refine wp_region_rq_lit (fun _ _ _ => False) (by kernel_rfl) (by kernel_rfl) ?_); (iterate 6 (refine wpRq_det' (by kernel_rfl) (fun K hK => ?_); go_simp; refine hK _ ?_; clear hK K)); (refine wpRq_fa rfl rfl (by kernel_rfl) rfl rfl (by first | assumption | exact hrfl _) (by first | assumption | exact hrfl _) ?_; intro r hr); (have hA := lt_is (m := mk) (x := x0) (hr.out.trans (by unfold multOf; rw [fa_cn_left, fa_cn_right])) HR.out; rw [c0] at hA); (iterate 9 (refine wpRq_det' (by kernel_rfl) (fun K hK => ?_); go_simp; refine hK _ ?_; clear hK K)); (refine wpRq_fa rfl rfl (by kernel_rfl) rfl rfl (by first | assumption | exact hrfl _) (by first | assumption | exact hrfl _) ?_; intro r hr); (have hB := lt_is (m := mk) (x := x1) (hr.out.trans (by unfold multOf; rw [fa_cn_left, fa_cn_right])) HR.out; rw [c1] at hB); (iterate 3 (refine wpRq_det' (by kernel_rfl) (fun K hK => ?_); go_simp; refine hK _ ?_; clear hK K)); (refine wpRq_nil ?_); intro nq)
            clear c0 c1
            go_wp2_with fail
            go_roundw
            case rel => exact ⟨j + 1, us', by omega, by go_num, by rw [e.out]; exact HO4.out.below (by repeat (first | exact Below.refl _ _ | assumption | refine below_drewN ?_ _ | refine below_alloc (Nat.le_refl _) ?_ _ | (refine Below.setCell ?_ (by first | exact Nat.le_refl _ | (simp; done) | (simp; omega) | omega) _) | (refine below_step (Nat.le_refl _) ?_ (by assumption)))), by have hb := HB4.out; exact (by repeat (first | exact Below.refl _ _ | assumption | refine below_drewN ?_ _ | refine below_alloc (Nat.le_refl _) ?_ _ | (refine Below.setCell ?_ (by first | exact Nat.le_refl _ | (simp; done) | (simp; omega) | omega) _) | (refine below_step (Nat.le_refl _) ?_ (by assumption))))⟩
            case measure => simp [intOf]; omega
        · obtain rfl : j = xs.length - 1 := by omega
          rw [← HS.out] at hoi
          have HO5 := Lib.hid hoi
          clear hoi hb HO4
          have q9 : ¬ (((xs.length - 1 : Nat) : Int) + 1 < (xs.length : Int)) := by omega
          go_wp2
          go_roundw
          case rel => exact ⟨k + 1, us', by omega, by go_num, HO5.out, HB4.out, HY2.out⟩
          case measure => simp [intOf]; omega
    · obtain rfl : k = ms.length := by omega
      have HG := Lib.hid (good_yes1 HTO.out hl1 hl2 (allM_yes fun j hj => hno.out j hj hj) HAF.out HF.out)
      clear hb2 hno
      go_wp2
      go_ret2
      exact CrossOut.ok HG.out HOI.out HB3.out
end Go.Proofs.Ytmpmnhnobgidoaa
