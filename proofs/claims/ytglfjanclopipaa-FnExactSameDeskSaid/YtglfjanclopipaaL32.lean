/- For every input the law FnExactSameDesk answers true. -/
import Derived.Test.YtglfjanclopipaaSE
import Derived.Deep.RegionHeld3
namespace Go.Proofs.Ytglfjanclopipaa
set_option linter.unusedSimpArgs false
set_option linter.unusedVariables false
open Go.ChangeShapes Go.WideShapes Go.ChangeAt Go.RowKit Go.Joins Go.Deep Go.Fl

theorem step1K {w w1 w2 : World} (h : Below w.heap.size w w1) (hb : Below w1.heap.size w1 w2) : Below w.heap.size w w2 := below_step (Nat.le_refl _) h hb
theorem Below_drewL {B : Nat} {a w : World} (h : Below B a w) : Below B a w.drew := below_drewN h 1
theorem stepL {w w1 w2 : World} {B : Nat} (hB : B ≤ w.heap.size) (h : Below B w w1) (hb : Below w1.heap.size w1 w2) : Below B w w2 := below_step hB h hb
set_option maxRecDepth 100000 in
set_option maxHeartbeats 2000000 in
theorem l_FnExactSameDesk (D E : Dsk) (cs es : List Value) (w : World) (hd : DVb w D cs ∧ D.BD) (he : DVb w E es ∧ E.BD) : Calls Try.prog 3 #[.agg cs.toArray, .agg es.toArray] w fun e' w' => e' = .returned (.bool true) ∧ Below w.heap.size w w' := by
  obtain ⟨hd, bD⟩ := hd
  obtain ⟨he, bE⟩ := he
  have HS1 := Lib.hid (fun W => D_sz D cs w W 1048576 (by decide) (by decide) hd)
  have HS2 := Lib.hid (fun W left h0 h1 => D_sz E es w W left h0 h1 he)
  have IL := Lib.hid (info_lawsDesk hd.length)
  have IM := Lib.hid (info_lawsDesk he.length)
  have HD := Lib.hid (fun (h : D.sz ≤ 1048576) => hd.dv h)
  have HE := Lib.hid (fun (h : E.sz ≤ 1048576) => he.dv h)
  have HV := Lib.hid (fun us vs W h k => D_sSame D E us vs W h k bD bE)
  have HI := Lib.hid (fun us vs W h k => D_iSame D E us vs W h k bD bE)
  have HQ1 := Lib.hid (fun us vs W h1 h2 => D_eq D us vs W h1 h2)
  have HQ2 := Lib.hid (fun us vs W h1 h2 => D_eq E us vs W h1 h2)
  clear hd he bD bE
  generalize Dsk.same D E = g0 at *
  go_enter Try.func3, Try.ntmps3
  have RA : Hid (Row ((w.alloc (.cells cs.toArray 38)).alloc (.cells es.toArray 38)) w.heap.size cs) := (row_topL w _ rfl cs 38).below (below_alloc (Nat.le_refl _) (Below.refl _ _) _)
  have RB : Hid (Row ((w.alloc (.cells cs.toArray 38)).alloc (.cells es.toArray 38)) (w.heap.size + 1) es) := row_topL _ _ (by simp) es 38
  go_wp2_with (with_reducible refine wpList_load_mid rfl 38 _ rfl w.heap.size 0 rfl cs _ (row_range RA.out) Try.underlying38 rfl IL.out ?_)
  have BB : Hid (Below w.heap.size w ((w.alloc (.cells cs.toArray 38)).alloc (.cells es.toArray 38))) := below_alloc (Nat.le_refl _) (below_alloc (Nat.le_refl _) (Below.refl _ _) _) _
  generalize ((w.alloc (.cells cs.toArray 38)).alloc (.cells es.toArray 38)) = w0 at *
  refine (HS1.out _).mono ?_
  rintro e' w1 ⟨⟨r, rfl, hrle, hr⟩, hb⟩
  replace BB := Lib.hid (step1K BB.out hb)
  replace RA := Lib.hid (RA.out.below hb)
  replace RB := Lib.hid (RB.out.below hb)
  by_cases hneg : r < 0
  · clear hr
    go_wp2
    go_ret
    exact ⟨rfl, BB.out⟩
  have hsum := hr (by omega)
  have hr0 : 0 ≤ r := by omega
  have HSM : Hid (D.sz ≤ 1048576) := by show _ ≤ _; omega
  replace HD := Lib.hid (HD.out HSM.out)
  replace HS2 := Lib.hid (fun W => HS2.out W r hr0 hrle)
  clear hr hb hsum HS1
  go_wp2_with (with_reducible refine wpList_load_mid rfl 38 _ rfl (w.heap.size + 1) 0 rfl es _ (row_range RB.out) Try.underlying38 rfl IM.out ?_)
  clear hneg
  refine (HS2.out _).mono ?_
  rintro e' w2 ⟨⟨r2, rfl, hrle2, hr⟩, hb⟩
  replace BB := Lib.hid (step1K BB.out hb)
  replace RA := Lib.hid (RA.out.below hb)
  replace RB := Lib.hid (RB.out.below hb)
  by_cases hneg : r2 < 0
  · clear hr
    go_wp2
    go_ret
    exact ⟨rfl, BB.out⟩
  have hsum := hr (by omega)
  have HSN : Hid (E.sz ≤ 1048576) := by show _ ≤ _; omega
  replace HE := Lib.hid (HE.out HSN.out)
  clear hr hb hsum HS2 hrle hrle2
  have HC1 := Lib.hid (fun W (hb : Below w.heap.size w W) => D_to D cs W HSM.out (HD.out.below hb))
  have HC2 := Lib.hid (fun W (hb : Below w.heap.size w W) => D_to E es W HSN.out (HE.out.below hb))
  clear HD HE
  go_wp2_with fail
  clear hneg hr0
  have KS : ∀ W, Below w2.heap.size w2 W → Row W w.heap.size cs ∧ Row W (w.heap.size + 1) es := fun W hb => ⟨RA.out.below hb, RB.out.below hb⟩
  refine wp_region_held_drew (S := fun w' => Row w' w.heap.size cs ∧ Row w' (w.heap.size + 1) es) (by kernel_rfl) (KS _ (Below_drewL (Below.refl _ _))) (fun hHeld => ?_)
  refine wpAnyH_take (i := 0) (oi := _) (v := _) rfl (by kernel_rfl) (by kernel_rfl) (by kernel_rfl) (fun _ _ _ h => h) (yieldsIf_load_mid rfl 38 _ rfl w.heap.size 0 rfl cs _ (fun W h => row_range h.1) Try.underlying38 rfl IL.out) hHeld ?_
  try simp only [Act.put, List.setIfInBounds_toArray, List.set_cons_zero, List.set_cons_succ]
  refine wpAnyH_take (i := 2) (oi := _) (v := _) rfl (by kernel_rfl) (by kernel_rfl) (by kernel_rfl) (fun _ _ _ h => h) (yieldsIf_load_mid rfl 38 _ rfl (w.heap.size + 1) 0 rfl es _ (fun W h => row_range h.2) Try.underlying38 rfl IM.out) hHeld ?_
  try simp only [Act.put, List.setIfInBounds_toArray, List.set_cons_zero, List.set_cons_succ]
  clear hHeld
  refine wpAnyH_ready (rs := [1]) (by kernel_rfl) (by simp) ?_
  refine AllReadyH.cons (o := _) (by simp only [List.getElem?_toArray, List.getElem?_cons_succ, List.getElem?_cons_zero]; rfl) (fun K hK => ?_) AllReadyH.nil
  go_simp
  go_at_call 8
  refine (HC1.out _ (Below_drewL BB.out)).mono ?_
  rintro e' w3 ⟨us, rfl, k1, hb⟩
  have B7 := Lib.hid (below_step (Nat.le_refl _) (Below_drewL (Below.refl w2.heap.size w2)) hb)
  replace BB := Lib.hid (below_step (Nat.le_refl _) (Below_drewL BB.out) hb)
  clear hb
  refine hK.out _ _ (KS _ B7.out) (fun hHeld => ?_)
  clear hK K hHeld
  try simp only [Act.put, List.setIfInBounds_toArray, List.set_cons_zero, List.set_cons_succ]
  refine wpAnyH_ready (rs := [3]) (by kernel_rfl) (by simp) ?_
  refine AllReadyH.cons (o := _) (by simp only [List.getElem?_toArray, List.getElem?_cons_succ, List.getElem?_cons_zero]; rfl) (fun K hK => ?_) AllReadyH.nil
  go_simp
  go_at_call 8
  refine (HC2.out _ BB.out).mono ?_
  rintro e' w4 ⟨vs, rfl, k2, hb⟩
  replace B7 := Lib.hid (below_step (Nat.le_refl _) B7.out hb)
  replace BB := Lib.hid (step1K BB.out hb)
  have HX := Lib.hid (HV.out us vs _ (k1.below hb) k2)
  clear hb k1 k2
  refine hK.out _ _ (KS _ B7.out) (fun hHeld => ?_)
  clear hK K hHeld
  try simp only [Act.put, List.setIfInBounds_toArray, List.set_cons_zero, List.set_cons_succ]
  refine wpAnyH_ready (rs := [4]) (by kernel_rfl) (by simp) ?_
  refine AllReadyH.cons (o := _) (by simp only [List.getElem?_toArray, List.getElem?_cons_succ, List.getElem?_cons_zero]; rfl) (fun K hK => ?_) AllReadyH.nil
  go_simp
  go_at_call 7
  refine HX.out.mono ?_
  rintro e' w5 ⟨rfl, hb⟩
  replace B7 := Lib.hid (below_step (Nat.le_refl _) B7.out hb)
  replace BB := Lib.hid (step1K BB.out hb)
  clear hb HX
  refine hK.out _ _ (KS _ B7.out) (fun hHeld => ?_)
  clear hK K hHeld
  try simp only [Act.put, List.setIfInBounds_toArray, List.set_cons_zero, List.set_cons_succ]
  refine wpAnyH_ready (rs := [5]) (by kernel_rfl) (by simp) ?_
  refine AllReadyH.cons (o := _) (by simp only [List.getElem?_toArray, List.getElem?_cons_succ, List.getElem?_cons_zero]; rfl) (fun K hK => ?_) AllReadyH.nil
  go_simp
  refine hK.out _ _ (KS _ B7.out) (fun hHeld => ?_)
  clear hK K hHeld
  try simp only [Act.put, List.setIfInBounds_toArray, List.set_cons_zero, List.set_cons_succ]
  refine wpAnyH_done (by kernel_rfl) ?_ _
  replace RA := Lib.hid (RA.out.below B7.out)
  replace RB := Lib.hid (RB.out.below B7.out)
  clear B7 KS HV
  go_wp2_with (with_reducible refine wpList_load_mid rfl 38 _ rfl w.heap.size 0 rfl cs _ (row_range RA.out) Try.underlying38 rfl IL.out ?_)
  refine (HC1.out _ BB.out).mono ?_
  rintro e' w6 ⟨xs, rfl, k3, hb⟩
  replace BB := Lib.hid (step1K BB.out hb)
  replace RA := Lib.hid (RA.out.below hb)
  replace RB := Lib.hid (RB.out.below hb)
  have IX := Lib.hid (info_implDesk k3.length)
  have AL := Lib.hid k3.all
  have IJ : Hid ((Try.prog.info? 51).map (·.size) = some xs.toArray.size) := IX.out
  have HT := Lib.hid (row_there (n := xs.toArray.size) (row_top w6 _ rfl deskZ 51) (soft_top w6 _ rfl deskZ 51) (by simp [k3.length]))
  have hbx : Below w6.heap.size w6 ((w6.alloc (.cells deskZ 51)).setCells w6.heap.size 0 xs) := Below_cells (Nat.le_refl _) _ _ _ (below_alloc (Nat.le_refl _) (Below.refl _ _) _)
  have RX : Hid (Row ((w6.alloc (.cells deskZ 51)).setCells w6.heap.size 0 xs) w6.heap.size xs) := by
    intro j v hj
    have h := World.rangeAt_setCells_same (w6.alloc (.cells deskZ 51)) w6.heap.size 0 xs (by have := HT.out; simpa using this) j v hj
    rwa [Nat.zero_add] at h
  have HRB := Lib.hid (RB.out.below hbx)
  clear hb
  go_wp2_with (first | (with_reducible refine wpList_store_mid rfl 51 _ _ rfl w6.heap.size 0 xs.toArray rfl rfl HT.out IJ.out AL.out ?_) | (with_reducible refine wpList_load_mid rfl 38 _ rfl (w.heap.size + 1) 0 rfl es _ (row_range HRB.out) Try.underlying38 rfl IM.out ?_))
  obtain ⟨w7, hw7⟩ : ∃ w7, w7 = (w6.alloc (.cells deskZ 51)).setCells w6.heap.size 0 xs := ⟨_, rfl⟩
  change Calls _ _ _ ((w6.alloc (.cells deskZ 51)).setCells w6.heap.size 0 xs) _
  rw [← hw7] at RX hbx
  rw [← hw7]
  clear hw7 HRB HT IJ AL
  have k3b := k3.below hbx
  replace RA := Lib.hid (RA.out.below hbx)
  replace RB := Lib.hid (RB.out.below hbx)
  replace BB := Lib.hid (step1K BB.out hbx)
  clear hbx k3
  obtain ⟨n6, hn6⟩ : ∃ n6, n6 = w6.heap.size := ⟨_, rfl⟩
  rw [← hn6] at RX ⊢
  clear hn6
  refine (HC2.out _ BB.out).mono ?_
  rintro e' w8 ⟨ys, rfl, k4, hb⟩
  replace BB := Lib.hid (step1K BB.out hb)
  replace RA := Lib.hid (RA.out.below hb)
  replace RB := Lib.hid (RB.out.below hb)
  replace RX := Lib.hid (RX.out.below hb)
  have k3c := k3b.below hb
  clear k3b
  have IY := Lib.hid (info_implDesk k4.length)
  have AL := Lib.hid k4.all
  have IJ : Hid ((Try.prog.info? 51).map (·.size) = some ys.toArray.size) := IY.out
  have HT := Lib.hid (row_there (n := ys.toArray.size) (row_top w8 _ rfl deskZ 51) (soft_top w8 _ rfl deskZ 51) (by simp [k4.length]))
  have hbx : Below w8.heap.size w8 ((w8.alloc (.cells deskZ 51)).setCells w8.heap.size 0 ys) := Below_cells (Nat.le_refl _) _ _ _ (below_alloc (Nat.le_refl _) (Below.refl _ _) _)
  have RY : Hid (Row ((w8.alloc (.cells deskZ 51)).setCells w8.heap.size 0 ys) w8.heap.size ys) := by
    intro j v hj
    have h := World.rangeAt_setCells_same (w8.alloc (.cells deskZ 51)) w8.heap.size 0 ys (by have := HT.out; simpa using this) j v hj
    rwa [Nat.zero_add] at h
  have HRX := Lib.hid (RX.out.below hbx)
  clear hb
  go_wp2_with (first | (with_reducible refine wpList_store_mid rfl 51 _ _ rfl w8.heap.size 0 ys.toArray rfl rfl HT.out IJ.out AL.out ?_) | (with_reducible refine wpList_load_mid rfl 51 _ rfl n6 0 rfl xs _ (row_range HRX.out) Try.underlying51 rfl IX.out ?_) | (with_reducible refine wpList_load_mid rfl 51 _ rfl w8.heap.size 0 rfl ys _ (row_range RY.out) Try.underlying51 rfl IY.out ?_))
  obtain ⟨w9, hw9⟩ : ∃ w9, w9 = (w8.alloc (.cells deskZ 51)).setCells w8.heap.size 0 ys := ⟨_, rfl⟩
  change Calls _ _ _ ((w8.alloc (.cells deskZ 51)).setCells w8.heap.size 0 ys) _
  rw [← hw9] at RY hbx HRX
  rw [← hw9]
  clear hw9 HT IJ AL
  have K3 := Lib.hid (k3c.below hbx)
  have K4 := Lib.hid (k4.below hbx)
  replace RX := HRX
  replace RA := Lib.hid (RA.out.below hbx)
  replace RB := Lib.hid (RB.out.below hbx)
  replace BB := Lib.hid (step1K BB.out hbx)
  clear hbx k4 k3c HRX
  obtain ⟨n8, hn8⟩ : ∃ n8, n8 = w8.heap.size := ⟨_, rfl⟩
  rw [← hn8] at RY ⊢
  clear hn8
  refine (HI.out xs ys _ K3.out K4.out).mono ?_
  rintro e' w10 ⟨rfl, hb⟩
  replace K3 := Lib.hid (K3.out.below hb)
  replace K4 := Lib.hid (K4.out.below hb)
  replace BB := Lib.hid (step1K BB.out hb)
  replace RA := Lib.hid (RA.out.below hb)
  replace RB := Lib.hid (RB.out.below hb)
  replace RX := Lib.hid (RX.out.below hb)
  replace RY := Lib.hid (RY.out.below hb)
  clear hb HI
  go_wp2_with fail
  have KS : ∀ W, Below w10.heap.size w10 W → Row W w.heap.size cs ∧ Row W n6 xs := fun W hb => ⟨RA.out.below hb, RX.out.below hb⟩
  refine wp_region_held_drew (S := fun w' => Row w' w.heap.size cs ∧ Row w' n6 xs) (by kernel_rfl) (KS _ (Below_drewL (Below.refl _ _))) (fun hHeld => ?_)
  refine wpAnyH_take (i := 0) (oi := _) (v := _) rfl (by kernel_rfl) (by kernel_rfl) (by kernel_rfl) (fun _ _ _ h => h) (yieldsIf_load_mid rfl 51 _ rfl n6 0 rfl xs _ (fun W h => row_range h.2) Try.underlying51 rfl IX.out) hHeld ?_
  try simp only [Act.put, List.setIfInBounds_toArray, List.set_cons_zero, List.set_cons_succ]
  refine wpAnyH_take (i := 1) (oi := _) (v := _) rfl (by kernel_rfl) (by kernel_rfl) (by kernel_rfl) (fun _ _ _ h => h) (yieldsIf_load_mid rfl 38 _ rfl w.heap.size 0 rfl cs _ (fun W h => row_range h.1) Try.underlying38 rfl IL.out) hHeld ?_
  try simp only [Act.put, List.setIfInBounds_toArray, List.set_cons_zero, List.set_cons_succ]
  clear hHeld
  refine wpAnyH_ready (rs := [2]) (by kernel_rfl) (by simp) ?_
  refine AllReadyH.cons (o := _) (by simp only [List.getElem?_toArray, List.getElem?_cons_succ, List.getElem?_cons_zero]; rfl) (fun K hK => ?_) AllReadyH.nil
  go_simp
  go_at_call 8
  refine (HC1.out _ (Below_drewL BB.out)).mono ?_
  rintro e' wa ⟨ys', rfl, k7, hb⟩
  have B7 := Lib.hid (below_step (Nat.le_refl _) (Below_drewL (Below.refl w10.heap.size w10)) hb)
  replace BB := Lib.hid (below_step (Nat.le_refl _) (Below_drewL BB.out) hb)
  have HE := Lib.hid (HQ1.out xs ys' _ (K3.out.below B7.out) k7)
  clear k7 hb
  refine hK.out _ _ (KS _ B7.out) (fun hHeld => ?_)
  clear hK K hHeld
  try simp only [Act.put, List.setIfInBounds_toArray, List.set_cons_zero, List.set_cons_succ]
  refine wpAnyH_ready (rs := [3]) (by kernel_rfl) (by simp) ?_
  refine AllReadyH.cons (o := _) (by simp only [List.getElem?_toArray, List.getElem?_cons_succ, List.getElem?_cons_zero]; rfl) (fun K hK => ?_) AllReadyH.nil
  go_simp
  go_at_call 10
  refine HE.out.mono ?_
  rintro e' w11 ⟨rfl, hb⟩
  replace B7 := Lib.hid (below_step (Nat.le_refl _) B7.out hb)
  replace BB := Lib.hid (step1K BB.out hb)
  clear hb HE
  refine hK.out _ _ (KS _ B7.out) (fun hHeld => ?_)
  clear hK K hHeld
  try simp only [Act.put, List.setIfInBounds_toArray, List.set_cons_zero, List.set_cons_succ]
  refine wpAnyH_ready (rs := [4]) (by kernel_rfl) (by simp) ?_
  refine AllReadyH.cons (o := _) (by simp only [List.getElem?_toArray, List.getElem?_cons_succ, List.getElem?_cons_zero]; rfl) (fun K hK => ?_) AllReadyH.nil
  go_simp
  refine hK.out _ _ (KS _ B7.out) (fun hHeld => ?_)
  clear hK K hHeld
  try simp only [Act.put, List.setIfInBounds_toArray, List.set_cons_zero, List.set_cons_succ]
  clear KS
  refine wpAnyH_done (by kernel_rfl) ?_ _
  replace RB := Lib.hid (RB.out.below B7.out)
  replace RY := Lib.hid (RY.out.below B7.out)
  replace K4 := Lib.hid (K4.out.below B7.out)
  clear B7 RA RX K3
  go_wp2_with fail
  have KS : ∀ W, Below w11.heap.size w11 W → Row W (w.heap.size + 1) es ∧ Row W n8 ys := fun W hb => ⟨RB.out.below hb, RY.out.below hb⟩
  refine wp_region_held_drew (S := fun w' => Row w' (w.heap.size + 1) es ∧ Row w' n8 ys) (by kernel_rfl) (KS _ (Below_drewL (Below.refl _ _))) (fun hHeld => ?_)
  refine wpAnyH_take (i := 0) (oi := _) (v := _) rfl (by kernel_rfl) (by kernel_rfl) (by kernel_rfl) (fun _ _ _ h => h) (yieldsIf_load_mid rfl 51 _ rfl n8 0 rfl ys _ (fun W h => row_range h.2) Try.underlying51 rfl IY.out) hHeld ?_
  try simp only [Act.put, List.setIfInBounds_toArray, List.set_cons_zero, List.set_cons_succ]
  refine wpAnyH_take (i := 1) (oi := _) (v := _) rfl (by kernel_rfl) (by kernel_rfl) (by kernel_rfl) (fun _ _ _ h => h) (yieldsIf_load_mid rfl 38 _ rfl (w.heap.size + 1) 0 rfl es _ (fun W h => row_range h.1) Try.underlying38 rfl IM.out) hHeld ?_
  try simp only [Act.put, List.setIfInBounds_toArray, List.set_cons_zero, List.set_cons_succ]
  clear hHeld
  refine wpAnyH_ready (rs := [2]) (by kernel_rfl) (by simp) ?_
  refine AllReadyH.cons (o := _) (by simp only [List.getElem?_toArray, List.getElem?_cons_succ, List.getElem?_cons_zero]; rfl) (fun K hK => ?_) AllReadyH.nil
  go_simp
  go_at_call 8
  refine (HC2.out _ (Below_drewL BB.out)).mono ?_
  rintro e' wa ⟨ys', rfl, k7, hb⟩
  have B7 := Lib.hid (below_step (Nat.le_refl _) (Below_drewL (Below.refl w11.heap.size w11)) hb)
  replace BB := Lib.hid (below_step (Nat.le_refl _) (Below_drewL BB.out) hb)
  have HE := Lib.hid (HQ2.out ys ys' _ (K4.out.below B7.out) k7)
  clear k7 hb
  refine hK.out _ _ (KS _ B7.out) (fun hHeld => ?_)
  clear hK K hHeld
  try simp only [Act.put, List.setIfInBounds_toArray, List.set_cons_zero, List.set_cons_succ]
  refine wpAnyH_ready (rs := [3]) (by kernel_rfl) (by simp) ?_
  refine AllReadyH.cons (o := _) (by simp only [List.getElem?_toArray, List.getElem?_cons_succ, List.getElem?_cons_zero]; rfl) (fun K hK => ?_) AllReadyH.nil
  go_simp
  go_at_call 10
  refine HE.out.mono ?_
  rintro e' w12 ⟨rfl, hb⟩
  replace B7 := Lib.hid (below_step (Nat.le_refl _) B7.out hb)
  replace BB := Lib.hid (step1K BB.out hb)
  clear hb HE
  refine hK.out _ _ (KS _ B7.out) (fun hHeld => ?_)
  clear hK K hHeld
  try simp only [Act.put, List.setIfInBounds_toArray, List.set_cons_zero, List.set_cons_succ]
  refine wpAnyH_ready (rs := [4]) (by kernel_rfl) (by simp) ?_
  refine AllReadyH.cons (o := _) (by simp only [List.getElem?_toArray, List.getElem?_cons_succ, List.getElem?_cons_zero]; rfl) (fun K hK => ?_) AllReadyH.nil
  go_simp
  refine hK.out _ _ (KS _ B7.out) (fun hHeld => ?_)
  clear hK K hHeld
  try simp only [Act.put, List.setIfInBounds_toArray, List.set_cons_zero, List.set_cons_succ]
  clear KS
  refine wpAnyH_done (by kernel_rfl) ?_ _
  go_wp2
  go_ret
  exact ⟨rfl, BB.out⟩
set_option maxRecDepth 100000 in
theorem FnExactSameDesk_lifted (os : Os) (started : os.Started) (H : Type) (enc : TypeId × Value → H) :
    ReturnsInHanded {} Try.checked os 3 .any (Rows.fnExactSameDeskSpec.pre6 enc Try.prog Try.f3 Rows.fnExactSameDeskRow.domain false) (Rows.fnExactSameDeskSpec.post enc Try.prog Try.f3 false true false false) := by
  refine returnsInHanded_of_change_sized (C := Try.checked) Try.own started (by as_aux_lemma => kernel_rfl) Try.func3
    (ChangeSpec.witness6 (enc := enc) (C := Try.checked) false ⟨#[], #[.agg #[.slice none 0 0, .slice none 0 0, .slice none 0 0, .slice none 0 0, .int .i64 0, .float .f32 0, .float .f32 0, .float .f32 0, .float .f32 0, .float .f32 0, .float .f32 0, .float .f32 0, .float .f32 0, .float .f32 0, .float .f32 0, .float .f32 0, .float .f32 0, .float .f32 0, .float .f32 0, .int .i64 0, .float .f32 0, .float .f32 0, .float .f32 0, .slice none 0 0, .slice none 0 0, .float .f32 0, .float .f32 0, .float .f32 0], .agg #[.slice none 0 0, .slice none 0 0, .slice none 0 0, .slice none 0 0, .int .i64 0, .float .f32 0, .float .f32 0, .float .f32 0, .float .f32 0, .float .f32 0, .float .f32 0, .float .f32 0, .float .f32 0, .float .f32 0, .float .f32 0, .float .f32 0, .float .f32 0, .float .f32 0, .float .f32 0, .int .i64 0, .float .f32 0, .float .f32 0, .float .f32 0, .slice none 0 0, .slice none 0 0, .float .f32 0, .float .f32 0, .float .f32 0]], []⟩ 8 (by as_aux_lemma => kernel_rfl) (by as_aux_lemma => kernel_rfl) (by as_aux_lemma => kernel_rfl) (by as_aux_lemma => kernel_rfl)) ?_
  intro W base args ds gs before hval0 hW hcnd0 hsz0 _
  have hval : ∀ (j : Nat) t v, Try.f3.params[j]? = some t → args[j]? = some v → Value.okWide Try.prog W .any base t v := hval0
  have hsz : (DataW.weightsEach Try.prog (Try.f3.params.toList ++ Rows.fnExactSameDeskSpec.plain.varTypes Try.prog) (ds ++ gs)).all (· ≤ reachBytes) = true := hsz0
  have hW' := hW
  obtain ⟨p, q, hA0, hV, rfl, hfz, hnd⟩ := hW
  have hA : DataW.TrodAll enc Try.prog W 0 (fun _ => true) true Try.f3.params.toList args.toList ds p := hA0
  rw [Try.params3] at hA hval hsz
  obtain ⟨rfl, rfl⟩ := trodVars_none hV
  obtain ⟨v0, vs0, d0, ds0, p0, q0, ha0, rfl, rfl, h0, r0⟩ := trodAll_cons hA
  obtain ⟨v1, vs1, d1, ds1, p1, q1, rfl, rfl, rfl, h1, r1⟩ := trodAll_cons r0
  obtain ⟨rfl, rfl, rfl⟩ := trodAll_nil r1
  obtain rfl : args = #[v0, v1] := by apply Array.ext'; exact ha0
  obtain ⟨D, c_D, rfl, R_D⟩ := open_desk (hval 0 38 v0 rfl rfl) h0
  obtain ⟨E, c_E, rfl, R_E⟩ := open_desk (hval 1 38 v1 rfl rfl) h1
  refine (l_FnExactSameDesk D E c_D c_E W R_D R_E).mono fun e W' ⟨he, hb⟩ => ?_
  subst he
  exact ⟨_, rfl, post_law Try.laidOut (by as_aux_lemma => kernel_rfl) rfl Try.underlying4 hW' rfl ⟨rfl, rfl, rfl⟩ hb⟩

theorem FnExactSameDesk_holds : Rows.FnExactSameDeskSaid :=
  OpenClaim.holds_of_wide 3 Try.f3 rfl rfl rfl rfl rfl rfl rfl ⟨rfl, rfl, rfl, rfl, rfl⟩ rfl rfl rfl rfl rfl (by as_aux_lemma => kernel_rfl) Try.func3 (by as_aux_lemma => kernel_rfl)
    (of_decide_eq_true (by as_aux_lemma => kernel_rfl)) (by unfold Func.isWrapper; rw [if_neg (of_decide_eq_false (by as_aux_lemma => kernel_rfl))]; exact ⟨rfl, rfl⟩)
    (fun os started H enc _ => FnExactSameDesk_lifted os started H enc)
end Go.Proofs.Ytglfjanclopipaa
