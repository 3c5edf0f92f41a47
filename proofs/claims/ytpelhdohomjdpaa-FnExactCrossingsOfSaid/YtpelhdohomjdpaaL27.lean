/- DRAFT, NOT BUILT: the law FnExactCrossingsOf. -/
import Derived.Test.YtpelhdohomjdpaaWK
import Derived.Test.YtpelhdohomjdpaaPI
namespace Go.Proofs.Ytpelhdohomjdpaa
set_option linter.unusedSimpArgs false
set_option linter.unusedVariables false
open Go.ChangeShapes Go.WideShapes Go.ChangeAt Go.RowKit Go.Joins Go.Deep Go.Fl
theorem marked_small {xss : List (List Int)} (h : ∀ row ∈ xss, row.length ≤ 1048576) : ∀ row ∈ markedI xss, row.length ≤ 1048576 := fun row hr => by
  unfold markedI at hr
  obtain ⟨i, hi, rfl⟩ := List.mem_map.1 hr
  have hl : i < xss.length := by simpa using hi
  rw [marksI_length, List.getElem?_eq_getElem hl]
  exact h _ (List.getElem_mem hl)
theorem step1 {w w1 w2 : World} (h : Below w.heap.size w w1) (hb : Below w1.heap.size w1 w2) : Below w.heap.size w w2 := below_step (Nat.le_refl _) h hb
theorem quiet1 {w w' : World} (h : ∃ n, w' = w.drewN n) : Below w.heap.size w w' := by
  obtain ⟨n, rfl⟩ := h
  exact below_drewN (Below.refl _ _) n
set_option maxHeartbeats 4000000 in
theorem l_FnExactCrossingsOf (m d s : Nat) (v1 v2 : Value) (ms : List Int) (xs : List Nat) (w : World) (h1 : RIw w v1 ms) (h2 : RFw w v2 xs) : Calls Try.prog 3 #[tow m d s, v1, v2] w fun e w' => e = .returned (.bool true) ∧ Below w.heap.size w w' := by
  obtain ⟨p1, cap1, rfl, hc1⟩ := h1
  obtain ⟨p2, cap2, rfl, hc2⟩ := h2
  by_cases hl1 : ms.length ≤ 1048576
  case neg =>
    clear hc1 hc2
    go_enter Try.func3, Try.ntmps3
    go_wp2
    go_ret
    exact ⟨rfl, (by repeat (first | exact Below.refl _ _ | assumption | refine below_drewN ?_ _ | refine below_alloc (Nat.le_refl _) ?_ _ | (refine Below.setCell ?_ (by first | exact Nat.le_refl _ | (simp; done) | (simp; omega) | omega) _) | (refine below_step (Nat.le_refl _) ?_ (by assumption))))⟩
  by_cases hl2 : xs.length ≤ 1048576
  case neg =>
    clear hc1 hc2
    go_enter Try.func3, Try.ntmps3
    go_wp2
    go_ret
    exact ⟨rfl, (by repeat (first | exact Below.refl _ _ | assumption | refine below_drewN ?_ _ | refine below_alloc (Nat.le_refl _) ?_ _ | (refine Below.setCell ?_ (by first | exact Nat.le_refl _ | (simp; done) | (simp; omega) | omega) _) | (refine below_step (Nat.le_refl _) ?_ (by assumption))))⟩
  have RM : Hid (RI w (.slice p1 ms.length cap1) ms) := ⟨p1, cap1, rfl, by omega, hc1⟩
  have RX : Hid (RF w (.slice p2 xs.length cap2) xs) := ⟨p2, cap2, rfl, by omega, hc2⟩
  obtain ⟨hcl, hc2'⟩ := crossRes_facts m d s ms xs
  have HTI := Lib.hid (fun k => totI_two (crossRes m d s ms xs) hc2' k)
  have HI : Hid (∀ row ∈ crossRes m d s ms xs, row.length ≤ 1048576) := fun row h => by rw [hc2' row h]; omega
  clear hc1 hc2 hc2'
  go_enter Try.func3, Try.ntmps3
  go_wp2_with fail
  obtain ⟨wb, hwb⟩ : ∃ wb, wb = w.alloc (.cells #[.float .f32 m, .float .f32 d, .float .f32 s] 24) := ⟨_, rfl⟩
  have HT0 : Hid (TowAt wb w.heap.size m d s) := by rw [hwb]; exact tow_top _ _ rfl _ _ _ _
  have hlt0 : w.heap.size < wb.heap.size := by rw [hwb]; simp
  have HWB : Hid (Below w.heap.size w wb) := by rw [hwb]; exact (Below.refl _ _).alloc (Nat.le_refl _) _
  rw [← hwb]
  clear hwb
  replace RM := Lib.hid (RI_below RM.out HWB.out)
  replace RX := Lib.hid (RF_below RX.out HWB.out)
  refine (l_toTower m d s _).mono ?_
  rintro e w' ⟨rfl, hb⟩
  have BB := Lib.hid hb
  clear hb
  go_wp2_with fail
  refine (l_toInt64S _ _ _ (RI_below RM.out BB.out) hl1).mono ?_
  rintro e w' ⟨u1, rfl, O1, hb⟩
  replace BB := Lib.hid (step1 BB.out hb)
  replace O1 := Lib.hid O1
  clear hb
  go_wp2_with fail
  refine (l_toFloat32S _ _ _ (RF_below RX.out BB.out) hl2).mono ?_
  rintro e w' ⟨u2, rfl, O2, hb⟩
  replace BB := Lib.hid (step1 BB.out hb)
  replace O1 := Lib.hid (OI_below O1.out hb)
  replace O2 := Lib.hid O2
  clear hb
  go_wp2_with fail
  refine (s_CrossingsOf m d s u1 u2 ms xs _ (RI_of_own O1.out (by omega)) (RF_of_own O2.out (by omega))).mono ?_
  rintro e w4 ⟨u4, us4, rfl, W4, hb⟩
  replace BB := Lib.hid (step1 BB.out hb)
  replace W4 := Lib.hid W4
  clear hb O1 O2
  have s04 := BB.out.size
  have hi1 : us4.length ≤ 1048576 := by have := W4.out.len; omega
  go_wp2_with fail
  refine (l_toInt64S _ _ _ (RI_below RM.out BB.out) hl1).mono ?_
  rintro e w5 ⟨u5, rfl, O5, hb⟩
  replace BB := Lib.hid (step1 BB.out hb)
  replace W4 := Lib.hid (W4.out.below hb)
  replace O5 := Lib.hid O5
  have s45 := hb.size
  clear hb
  go_wp2_with fail
  refine (l_toFloat32S _ _ _ (RF_below RX.out BB.out) hl2).mono ?_
  rintro e w6 ⟨u6, rfl, O6, hb⟩
  replace BB := Lib.hid (step1 BB.out hb)
  replace W4 := Lib.hid (W4.out.below hb)
  replace O5 := Lib.hid (OI_below O5.out hb)
  replace O6 := Lib.hid O6
  have s56 := hb.size
  have D56 := Lib.hid (dis_types O5.out O6.out (by decide))
  clear hb
  obtain ⟨c0, c1, c2⟩ := TowAt.below HT0.out BB.out hlt0
  go_wp2_with fail
  refine (l_toTower m d s _).mono ?_
  rintro e w7 ⟨rfl, hb⟩
  replace BB := Lib.hid (step1 BB.out hb)
  replace W4 := Lib.hid (W4.out.below hb)
  replace O5 := Lib.hid (OI_below O5.out hb)
  replace O6 := Lib.hid (OF_below O6.out hb)
  have s67 := hb.size
  have HB5 := Lib.hid (show ∀ q, u5.ownBlock = some q → w4.heap.size ≤ q ∧ q < w7.heap.size from fun q hq => ⟨(World.ownsRow.lt O5.out q hq).1, (World.ownsRow.lt O5.out q hq).2⟩)
  have HB6 := Lib.hid (show ∀ q, u6.ownBlock = some q → w4.heap.size ≤ q ∧ q < w7.heap.size from fun q hq => ⟨by have := (World.ownsRow.lt O6.out q hq).1; omega, (World.ownsRow.lt O6.out q hq).2⟩)
  clear hb c0 c1 c2
  go_wp2_with fail
  refine (i_CrossingsOf m d s u5 u6 ms xs _ (RI_of_own O5.out (by omega)) (RF_of_own O6.out (by omega))).mono ?_
  rintro e w8 ⟨u8, us8, rfl, W8, hb⟩
  replace BB := Lib.hid (step1 BB.out hb)
  replace W4 := Lib.hid (W4.out.below hb)
  replace O5 := Lib.hid (OI_below O5.out hb)
  replace O6 := Lib.hid (OF_below O6.out hb)
  replace W8 := Lib.hid W8
  have s78 := hb.size
  clear hb
  have hi2 : us8.length ≤ 1048576 := by have := W8.out.len; omega
  go_wp2_with fail
  refine (l_eqInt64SS u8 u4 us8 us4 _ _ (W8.out.read hi2 HI.out) (W4.out.read hi1 HI.out)).mono ?_
  rintro e w' ⟨rfl, hn⟩
  have hb := quiet1 hn; clear hn; replace BB := Lib.hid (step1 BB.out hb); replace W4 := Lib.hid (W4.out.below hb); replace O5 := Lib.hid (OI_below O5.out hb); replace O6 := Lib.hid (OF_below O6.out hb); replace W8 := Lib.hid (W8.out.below hb); clear hb
  go_wp2_with fail
  refine (l_toInt64S _ _ _ (RI_below RM.out BB.out) hl1).mono ?_
  rintro e w' ⟨uc, rfl, Oc, hb⟩
  replace BB := Lib.hid (step1 BB.out hb); replace W4 := Lib.hid (W4.out.below hb); replace O5 := Lib.hid (OI_below O5.out hb); replace O6 := Lib.hid (OF_below O6.out hb); replace W8 := Lib.hid (W8.out.below hb); clear hb
  go_wp2_with fail
  refine (l_eqInt64S u5 uc ms _ (RI_of_own O5.out (by omega)) (RI_of_own Oc (by omega))).mono ?_
  rintro e w' ⟨rfl, hn⟩
  clear Oc
  have hb := quiet1 hn; clear hn; replace BB := Lib.hid (step1 BB.out hb); replace W4 := Lib.hid (W4.out.below hb); replace O5 := Lib.hid (OI_below O5.out hb); replace O6 := Lib.hid (OF_below O6.out hb); replace W8 := Lib.hid (W8.out.below hb); clear hb
  go_wp2_with fail
  refine (l_toFloat32S _ _ _ (RF_below RX.out BB.out) hl2).mono ?_
  rintro e w' ⟨ud, rfl, Od, hb⟩
  replace BB := Lib.hid (step1 BB.out hb); replace W4 := Lib.hid (W4.out.below hb); replace O5 := Lib.hid (OI_below O5.out hb); replace O6 := Lib.hid (OF_below O6.out hb); replace W8 := Lib.hid (W8.out.below hb); clear hb
  go_wp2_with fail
  refine (l_eqFloat32S u6 ud xs xs _ (RF_of_own O6.out (by omega)) (RF_of_own Od (by omega)) (FEq.refl _)).mono ?_
  rintro e w' ⟨rfl, hn⟩
  clear Od
  have hb := quiet1 hn; clear hn; replace BB := Lib.hid (step1 BB.out hb); replace W4 := Lib.hid (W4.out.below hb); replace O5 := Lib.hid (OI_below O5.out hb); replace O6 := Lib.hid (OF_below O6.out hb); replace W8 := Lib.hid (W8.out.below hb); clear hb
  go_wp2_with fail
  refine (l_markInt64S u5 ms 1 _ (by omega) _ _ O5.out (by omega) (by omega)).mono ?_
  rintro e w' ⟨rfl, -, hg⟩
  replace W4 := Lib.hid (W4.out.only (Only.of_grown hg HB5.out) (.inl (Nat.le_refl _)))
  replace W8 := Lib.hid (W8.out.only (Only.of_grown hg HB5.out) (.inr (Nat.le_refl _)))
  replace O6 := Lib.hid (kept_dis O6.out hg D56.out)
  replace BB := Lib.hid (Below.trans BB.out ((Only.of_grown hg HB5.out).below s04 BB.out.size))
  clear hg O5
  go_wp2_with fail
  refine (l_markFloat32S u6 xs (1 + ms.length) _ (by omega) _ _ O6.out (by omega) (by omega)).mono ?_
  rintro e w' ⟨rfl, -, hg⟩
  replace W4 := Lib.hid (W4.out.only (Only.of_grown hg HB6.out) (.inl (Nat.le_refl _)))
  replace W8 := Lib.hid (W8.out.only (Only.of_grown hg HB6.out) (.inr (Nat.le_refl _)))
  replace BB := Lib.hid (Below.trans BB.out ((Only.of_grown hg HB6.out).below s04 BB.out.size))
  clear hg O6
  go_wp2_with fail
  refine (l_eqInt64SS u8 u4 us8 us4 _ _ (W8.out.read hi2 HI.out) (W4.out.read hi1 HI.out)).mono ?_
  rintro e w' ⟨rfl, hn⟩
  have hb := quiet1 hn; clear hn; replace BB := Lib.hid (step1 BB.out hb); replace W4 := Lib.hid (W4.out.below hb); replace W8 := Lib.hid (W8.out.below hb); clear hb
  have htt := HTI.out us8.length
  have hu8 : us8.length ≤ 2048 := by have := W8.out.len; omega
  go_wp2_with fail
  refine (l_markInt64SS u8 us8 _ _ _ _ W8.out hi2 HI.out (by omega)).mono ?_
  rintro e w' ⟨rfl, M8, hon⟩
  replace M8 := Lib.hid M8
  replace W4 := Lib.hid (W4.out.only hon (.inl (by omega)))
  replace BB := Lib.hid (Below.trans BB.out (hon.below (by omega) BB.out.size))
  clear hon W8
  have HMS := Lib.hid (marked_small HI.out)
  go_wp2_with fail
  refine (l_heldInt64SS u8 us8 (crossRes m d s ms xs) _ (M8.out.read hi2 HMS.out) hi2 HI.out (by omega)).mono ?_
  rintro e w' ⟨rfl, hn⟩
  have hb := quiet1 hn; clear hn; replace BB := Lib.hid (step1 BB.out hb); replace W4 := Lib.hid (W4.out.below hb); replace M8 := Lib.hid (M8.out.below hb); clear hb
  obtain ⟨c0, c1, c2⟩ := TowAt.below HT0.out BB.out hlt0
  go_wp2_with fail
  refine (l_toTower m d s _).mono ?_
  rintro e w' ⟨rfl, hb⟩
  clear c0 c1 c2
  replace BB := Lib.hid (step1 BB.out hb); replace W4 := Lib.hid (W4.out.below hb); replace M8 := Lib.hid (M8.out.below hb); clear hb
  go_wp2_with fail
  refine (l_toInt64S _ _ _ (RI_below RM.out BB.out) hl1).mono ?_
  rintro e w' ⟨ue, rfl, Oe, hb⟩
  replace BB := Lib.hid (step1 BB.out hb); replace W4 := Lib.hid (W4.out.below hb); replace M8 := Lib.hid (M8.out.below hb); clear hb
  replace Oe := Lib.hid Oe
  go_wp2_with fail
  refine (l_toFloat32S _ _ _ (RF_below RX.out BB.out) hl2).mono ?_
  rintro e w' ⟨uf, rfl, Of, hb⟩
  replace Oe := Lib.hid (OI_below Oe.out hb)
  replace BB := Lib.hid (step1 BB.out hb); replace W4 := Lib.hid (W4.out.below hb); replace M8 := Lib.hid (M8.out.below hb); clear hb
  go_wp2_with fail
  refine (i_CrossingsOf m d s ue uf ms xs _ (RI_of_own Oe.out (by omega)) (RF_of_own Of (by omega))).mono ?_
  rintro e w9 ⟨u9, us9, rfl, W9, hb⟩
  replace BB := Lib.hid (step1 BB.out hb); replace W4 := Lib.hid (W4.out.below hb); replace M8 := Lib.hid (M8.out.below hb); clear hb
  have hi9 : us9.length ≤ 1048576 := by have := W9.len; omega
  replace W9 := Lib.hid W9
  clear Oe Of
  go_wp2_with fail
  refine (l_eqInt64SS u9 u4 us9 us4 _ _ (W9.out.read hi9 HI.out) (W4.out.read hi1 HI.out)).mono ?_
  rintro e w' ⟨rfl, hn⟩
  clear W9
  have hb := quiet1 hn; clear hn; replace BB := Lib.hid (step1 BB.out hb); replace W4 := Lib.hid (W4.out.below hb); replace M8 := Lib.hid (M8.out.below hb); clear hb
  go_wp2_with fail
  refine (l_heldInt64SS u8 us8 (crossRes m d s ms xs) _ (M8.out.read hi2 HMS.out) hi2 HI.out (by omega)).mono ?_
  rintro e w' ⟨rfl, hn⟩
  have hb := quiet1 hn; clear hn; replace BB := Lib.hid (step1 BB.out hb); replace W4 := Lib.hid (W4.out.below hb); replace M8 := Lib.hid (M8.out.below hb); clear hb
  go_wp2
  go_ret
  exact ⟨rfl, step1 HWB.out BB.out⟩

set_option maxRecDepth 100000 in
theorem FnExactCrossingsOf_lifted (os : Os) (started : os.Started) (H : Type) (enc : TypeId × Value → H) :
    ReturnsInHanded {} Try.checked os 3 .any (Rows.fnExactCrossingsOfSpec.pre6 enc Try.prog Try.f3 Rows.fnExactCrossingsOfRow.domain false) (Rows.fnExactCrossingsOfSpec.post enc Try.prog Try.f3 false true false false) := by
  refine returnsInHanded_of_change_sized (C := Try.checked) Try.own started (by as_aux_lemma => kernel_rfl) Try.func3
    (ChangeSpec.witness6 (enc := enc) (C := Try.checked) false ⟨#[], #[.agg #[.float .f32 0, .float .f32 0, .float .f32 0], .slice none 0 0, .slice none 0 0], []⟩ 8 (by as_aux_lemma => kernel_rfl) (by as_aux_lemma => kernel_rfl) (by as_aux_lemma => kernel_rfl) (by as_aux_lemma => kernel_rfl)) ?_
  intro W base args ds gs before hval0 hW hcnd0 hsz0 _
  have hval : ∀ (j : Nat) t v, Try.f3.params[j]? = some t → args[j]? = some v → Value.okWide Try.prog W .any base t v := hval0
  have hsz : (DataW.weightsEach Try.prog (Try.f3.params.toList ++ Rows.fnExactCrossingsOfSpec.plain.varTypes Try.prog) (ds ++ gs)).all (· ≤ reachBytes) = true := hsz0
  have hW' := hW
  obtain ⟨p, q, hA0, hV, rfl, hfz, hnd⟩ := hW
  have hA : DataW.TrodAll enc Try.prog W 0 (fun _ => true) true Try.f3.params.toList args.toList ds p := hA0
  rw [Try.params3] at hA hval hsz
  obtain ⟨rfl, rfl⟩ := trodVars_none hV
  obtain ⟨v0, vs0, d0, ds0, p0, q0, ha0, rfl, rfl, h0, r0⟩ := trodAll_cons hA
  obtain ⟨v1, vs1, d1, ds1, p1, q1, rfl, rfl, rfl, h1, r1⟩ := trodAll_cons r0
  obtain ⟨v2, vs2, d2, ds2, p2, q2, rfl, rfl, rfl, h2, r2⟩ := trodAll_cons r1
  obtain ⟨rfl, rfl, rfl⟩ := trodAll_nil r2
  obtain rfl : args = #[v0, v1, v2] := by apply Array.ext'; exact ha0
  obtain ⟨t_m, t_d, t_s, rfl⟩ := open_tow (hval 0 24 v0 rfl rfl) h0
  obtain ⟨ms, R_ms⟩ := open_RI (hval 1 _ v1 rfl rfl) h1
  obtain ⟨xs, R_xs⟩ := open_RF (hval 2 _ v2 rfl rfl) h2
  refine (l_FnExactCrossingsOf t_m t_d t_s v1 v2 ms xs W R_ms R_xs).mono fun e W' ⟨he, hb⟩ => ?_
  subst he
  exact ⟨_, rfl, post_law Try.laidOut (by as_aux_lemma => kernel_rfl) rfl Try.underlying4 hW' rfl ⟨rfl, rfl, rfl⟩ hb⟩

theorem FnExactCrossingsOf_holds : Rows.FnExactCrossingsOfSaid :=
  OpenClaim.holds_of_wide 3 Try.f3 rfl rfl rfl rfl rfl rfl rfl ⟨rfl, rfl, rfl, rfl, rfl⟩ rfl rfl rfl rfl rfl (by as_aux_lemma => kernel_rfl) Try.func3 (by as_aux_lemma => kernel_rfl)
    (of_decide_eq_true (by as_aux_lemma => kernel_rfl)) (by unfold Func.isWrapper; rw [if_neg (of_decide_eq_false (by as_aux_lemma => kernel_rfl))]; exact ⟨rfl, rfl⟩)
    (fun os started H enc _ => FnExactCrossingsOf_lifted os started H enc)
end Go.Proofs.Ytpelhdohomjdpaa
