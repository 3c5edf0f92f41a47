/- For every input the law FnExactValidDesk answers true. -/
import Derived.Test.YtglfjanclopipaaDE
import Derived.Test.YtglfjanclopipaaDF
import Derived.Deep.RegionHeld3
namespace Go.Proofs.Ytglfjanclopipaa
set_option linter.unusedSimpArgs false
set_option linter.unusedVariables false
open Go.ChangeShapes Go.WideShapes Go.ChangeAt Go.RowKit Go.Joins Go.Deep Go.Fl

theorem step1K {w w1 w2 : World} (h : Below w.heap.size w w1) (hb : Below w1.heap.size w1 w2) : Below w.heap.size w w2 := below_step (Nat.le_refl _) h hb
theorem Below_drewL {B : Nat} {a w : World} (h : Below B a w) : Below B a w.drew := below_drewN h 1
set_option maxRecDepth 100000 in
set_option maxHeartbeats 1000000 in
theorem l_FnExactValidDesk (D : Dsk) (cs : List Value) (w : World) (hd : DVb w D cs) : Calls Try.prog 4 #[.agg cs.toArray] w fun e' w' => e' = .returned (.bool true) ∧ Below w.heap.size w w' := by
  have HSZ := Lib.hid (fun W => D_sz D cs w W 1048576 (by decide) (by decide) hd)
  have IL := Lib.hid (info_lawsDesk hd.length)
  have HD := Lib.hid (fun (h : D.sz ≤ 1048576) => hd.dv h)
  clear hd
  go_enter Try.func4, Try.ntmps4
  have RA0 := Lib.hid (row_topL w _ rfl cs 38)
  go_wp2_with (with_reducible refine wpList_load_mid rfl 38 _ rfl w.heap.size 0 rfl cs _ (row_range RA0.out) Try.underlying38 rfl IL.out ?_)
  have BB : Hid (Below w.heap.size w (w.alloc (.cells cs.toArray 38))) := below_alloc (Nat.le_refl _) (Below.refl _ _) _
  generalize w.alloc (.cells cs.toArray 38) = w0 at *
  refine (HSZ.out _).mono ?_
  rintro e' w1 ⟨⟨r, rfl, -, hr⟩, hb1⟩
  replace BB := Lib.hid (step1K BB.out hb1)
  by_cases hneg : r < 0
  · clear hr
    go_wp2
    go_ret
    exact ⟨rfl, BB.out⟩
  have hsum := hr (by omega)
  have hr0 : 0 ≤ r := by omega
  have HSM : Hid (D.sz ≤ 1048576) := by show _ ≤ _; omega
  replace HD := Lib.hid (HD.out HSM.out)
  have RA := Lib.hid (RA0.out.below hb1)
  clear hr hb1 hsum hneg RA0
  have HCP := Lib.hid (fun W (hb : Below w.heap.size w W) => D_to D cs W HSM.out (HD.out.below hb))
  have HV := Lib.hid (fun us W h => D_sValid D us W h)
  have HI := Lib.hid (fun us W h => D_iValid D us W h)
  have HEQ := Lib.hid (fun us vs W h1 h2 => D_eq D us vs W h1 h2)
  clear HD
  generalize D.ok = g0 at *
  go_wp2_with (with_reducible refine wpList_load_mid rfl 38 _ rfl w.heap.size 0 rfl cs _ (row_range RA.out) Try.underlying38 rfl IL.out ?_)
  refine (HCP.out _ BB.out).mono ?_
  rintro e' w2 ⟨us, rfl, k2, hb⟩
  replace BB := Lib.hid (step1K BB.out hb)
  replace RA := Lib.hid (RA.out.below hb)
  have HS2 := Lib.hid (HV.out us _ k2)
  clear k2 hb
  go_wp2_with fail
  refine HS2.out.mono ?_
  rintro e' w3 ⟨rfl, hb⟩
  replace BB := Lib.hid (step1K BB.out hb)
  replace RA := Lib.hid (RA.out.below hb)
  clear HS2 hb HV
  go_wp2_with (with_reducible refine wpList_load_mid rfl 38 _ rfl w.heap.size 0 rfl cs _ (row_range RA.out) Try.underlying38 rfl IL.out ?_)
  refine (HCP.out _ BB.out).mono ?_
  rintro e' w4 ⟨xs, rfl, k4, hb⟩
  replace BB := Lib.hid (step1K BB.out hb)
  replace RA := Lib.hid (RA.out.below hb)
  have II := Lib.hid (info_implDesk k4.length)
  have AL := Lib.hid k4.all
  have IJ : Hid ((Try.prog.info? 51).map (·.size) = some xs.toArray.size) := II.out
  have HT := Lib.hid (row_there (n := xs.toArray.size) (row_top w4 _ rfl deskZ 51) (soft_top w4 _ rfl deskZ 51) (by simp [k4.length]))
  have hbx : Below w4.heap.size w4 ((w4.alloc (.cells deskZ 51)).setCells w4.heap.size 0 xs) := Below_cells (Nat.le_refl _) _ _ _ (below_alloc (Nat.le_refl _) (Below.refl _ _) _)
  have RX : Hid (Row ((w4.alloc (.cells deskZ 51)).setCells w4.heap.size 0 xs) w4.heap.size xs) := by
    intro j v hj
    have h := World.rangeAt_setCells_same (w4.alloc (.cells deskZ 51)) w4.heap.size 0 xs (by have := HT.out; simpa using this) j v hj
    rwa [Nat.zero_add] at h
  have HBX := Lib.hid hbx
  have HRX := Lib.hid RX.out
  have K4 := Lib.hid (k4.below hbx)
  clear hb k4 hbx
  go_wp2_with (first | (with_reducible refine wpList_store_mid rfl 51 _ _ rfl w4.heap.size 0 xs.toArray rfl rfl HT.out IJ.out AL.out ?_) | (with_reducible refine wpList_load_mid rfl 51 _ rfl w4.heap.size 0 rfl xs _ (row_range RX.out) Try.underlying51 rfl II.out ?_))
  clear RX HT IJ AL
  have RX : Hid (Row ((w4.alloc (.cells deskZ 51)).setCells w4.heap.size 0 xs) w4.heap.size xs) := HRX.out
  obtain ⟨w5, hw5⟩ : ∃ w5, w5 = (w4.alloc (.cells deskZ 51)).setCells w4.heap.size 0 xs := ⟨_, rfl⟩
  rw [← hw5] at RX HBX K4
  change Calls _ _ _ ((w4.alloc (.cells deskZ 51)).setCells w4.heap.size 0 xs) _
  rw [← hw5]
  clear hw5 HRX
  replace BB := Lib.hid (step1K BB.out HBX.out)
  replace RA := Lib.hid (RA.out.below HBX.out)
  obtain ⟨n4, hn4⟩ : ∃ n4, n4 = w4.heap.size := ⟨_, rfl⟩
  rw [← hn4] at RX ⊢
  clear hn4 HBX
  refine (HI.out _ _ K4.out).mono ?_
  rintro e' w6 ⟨rfl, hb⟩
  replace K4 := Lib.hid (K4.out.below hb)
  replace BB := Lib.hid (step1K BB.out hb)
  replace RA := Lib.hid (RA.out.below hb)
  replace RX := Lib.hid (RX.out.below hb)
  clear hb HI
  go_wp2_with fail
  have KS : ∀ W, Below w6.heap.size w6 W → Row W w.heap.size cs ∧ Row W n4 xs := fun W hb => ⟨RA.out.below hb, RX.out.below hb⟩
  refine wp_region_held_drew (S := fun w' => Row w' w.heap.size cs ∧ Row w' n4 xs) (by kernel_rfl) (KS _ (Below_drewL (Below.refl _ _))) (fun hHeld => ?_)
  refine wpAnyH_take (i := 0) (oi := _) (v := _) rfl (by kernel_rfl) (by kernel_rfl) (by kernel_rfl) (fun _ _ _ h => h) (yieldsIf_load_mid rfl 51 _ rfl n4 0 rfl xs _ (fun W h => row_range h.2) Try.underlying51 rfl II.out) hHeld ?_
  try simp only [Act.put, List.setIfInBounds_toArray, List.set_cons_zero, List.set_cons_succ]
  refine wpAnyH_take (i := 1) (oi := _) (v := _) rfl (by kernel_rfl) (by kernel_rfl) (by kernel_rfl) (fun _ _ _ h => h) (yieldsIf_load_mid rfl 38 _ rfl w.heap.size 0 rfl cs _ (fun W h => row_range h.1) Try.underlying38 rfl IL.out) hHeld ?_
  try simp only [Act.put, List.setIfInBounds_toArray, List.set_cons_zero, List.set_cons_succ]
  clear hHeld
  refine wpAnyH_ready (rs := [2]) (by kernel_rfl) (by simp) ?_
  refine AllReadyH.cons (o := _) (by simp only [List.getElem?_toArray, List.getElem?_cons_succ, List.getElem?_cons_zero]; rfl) (fun K hK => ?_) AllReadyH.nil
  go_simp
  go_at_call 8
  refine (HCP.out _ (Below_drewL BB.out)).mono ?_
  rintro e' w7 ⟨ys, rfl, k7, hb⟩
  have B7 := Lib.hid (below_step (Nat.le_refl _) (Below_drewL (Below.refl w6.heap.size w6)) hb)
  replace BB := Lib.hid (below_step (Nat.le_refl _) (Below_drewL BB.out) hb)
  have HE := Lib.hid (HEQ.out xs ys _ (K4.out.below B7.out) k7)
  clear k7 hb HCP
  refine hK.out _ _ (KS _ B7.out) (fun hHeld => ?_)
  clear hK K hHeld
  try simp only [Act.put, List.setIfInBounds_toArray, List.set_cons_zero, List.set_cons_succ]
  refine wpAnyH_ready (rs := [3]) (by kernel_rfl) (by simp) ?_
  refine AllReadyH.cons (o := _) (by simp only [List.getElem?_toArray, List.getElem?_cons_succ, List.getElem?_cons_zero]; rfl) (fun K hK => ?_) AllReadyH.nil
  go_simp
  go_at_call 10
  refine HE.out.mono ?_
  rintro e' w8 ⟨rfl, hb⟩
  replace B7 := Lib.hid (below_step (Nat.le_refl _) B7.out hb)
  replace BB := Lib.hid (below_step (Nat.le_refl _) BB.out hb)
  clear hb HE
  refine hK.out _ _ (KS _ B7.out) (fun hHeld => ?_)
  clear hK K hHeld
  try simp only [Act.put, List.setIfInBounds_toArray, List.set_cons_zero, List.set_cons_succ]
  refine wpAnyH_ready (rs := [4]) (by kernel_rfl) (by simp) ?_
  refine AllReadyH.cons (o := _) (by simp only [List.getElem?_toArray, List.getElem?_cons_succ, List.getElem?_cons_zero]; rfl) (fun K hK => ?_) AllReadyH.nil
  go_simp
  refine hK.out _ _ (KS _ B7.out) (fun hHeld => ?_)
  clear hK K hHeld KS
  try simp only [Act.put, List.setIfInBounds_toArray, List.set_cons_zero, List.set_cons_succ]
  refine wpAnyH_done (by kernel_rfl) ?_ _
  go_wp2
  go_ret
  exact ⟨rfl, BB.out⟩
set_option maxRecDepth 100000 in
theorem FnExactValidDesk_lifted (os : Os) (started : os.Started) (H : Type) (enc : TypeId × Value → H) :
    ReturnsInHanded {} Try.checked os 4 .any (Rows.fnExactValidDeskSpec.pre6 enc Try.prog Try.f4 Rows.fnExactValidDeskRow.domain false) (Rows.fnExactValidDeskSpec.post enc Try.prog Try.f4 false true false false) := by
  refine returnsInHanded_of_change_sized (C := Try.checked) Try.own started (by as_aux_lemma => kernel_rfl) Try.func4
    (ChangeSpec.witness6 (enc := enc) (C := Try.checked) false ⟨#[], #[.agg #[.slice none 0 0, .slice none 0 0, .slice none 0 0, .slice none 0 0, .int .i64 0, .float .f32 0, .float .f32 0, .float .f32 0, .float .f32 0, .float .f32 0, .float .f32 0, .float .f32 0, .float .f32 0, .float .f32 0, .float .f32 0, .float .f32 0, .float .f32 0, .float .f32 0, .float .f32 0, .int .i64 0, .float .f32 0, .float .f32 0, .float .f32 0, .slice none 0 0, .slice none 0 0, .float .f32 0, .float .f32 0, .float .f32 0]], []⟩ 8 (by as_aux_lemma => kernel_rfl) (by as_aux_lemma => kernel_rfl) (by as_aux_lemma => kernel_rfl) (by as_aux_lemma => kernel_rfl)) ?_
  intro W base args ds gs before hval0 hW hcnd0 hsz0 _
  have hval : ∀ (j : Nat) t v, Try.f4.params[j]? = some t → args[j]? = some v → Value.okWide Try.prog W .any base t v := hval0
  have hsz : (DataW.weightsEach Try.prog (Try.f4.params.toList ++ Rows.fnExactValidDeskSpec.plain.varTypes Try.prog) (ds ++ gs)).all (· ≤ reachBytes) = true := hsz0
  have hW' := hW
  obtain ⟨p, q, hA0, hV, rfl, hfz, hnd⟩ := hW
  have hA : DataW.TrodAll enc Try.prog W 0 (fun _ => true) true Try.f4.params.toList args.toList ds p := hA0
  rw [Try.params4] at hA hval hsz
  obtain ⟨rfl, rfl⟩ := trodVars_none hV
  obtain ⟨v0, vs0, d0, ds0, p0, q0, ha0, rfl, rfl, h0, r0⟩ := trodAll_cons hA
  obtain ⟨rfl, rfl, rfl⟩ := trodAll_nil r0
  obtain rfl : args = #[v0] := by apply Array.ext'; exact ha0
  obtain ⟨D, c_D, rfl, R_D⟩ := open_desk (hval 0 38 v0 rfl rfl) h0
  refine (l_FnExactValidDesk D c_D W R_D).mono fun e W' ⟨he, hb⟩ => ?_
  subst he
  exact ⟨_, rfl, post_law Try.laidOut (by as_aux_lemma => kernel_rfl) rfl Try.underlying4 hW' rfl ⟨rfl, rfl, rfl⟩ hb⟩

theorem FnExactValidDesk_holds : Rows.FnExactValidDeskSaid :=
  OpenClaim.holds_of_wide 4 Try.f4 rfl rfl rfl rfl rfl rfl rfl ⟨rfl, rfl, rfl, rfl, rfl⟩ rfl rfl rfl rfl rfl (by as_aux_lemma => kernel_rfl) Try.func4 (by as_aux_lemma => kernel_rfl)
    (of_decide_eq_true (by as_aux_lemma => kernel_rfl)) (by unfold Func.isWrapper; rw [if_neg (of_decide_eq_false (by as_aux_lemma => kernel_rfl))]; exact ⟨rfl, rfl⟩)
    (fun os started H enc _ => FnExactValidDesk_lifted os started H enc)
end Go.Proofs.Ytglfjanclopipaa
