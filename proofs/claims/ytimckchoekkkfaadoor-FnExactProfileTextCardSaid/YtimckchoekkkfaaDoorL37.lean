/- For every input the law FnExactProfileText answers true. -/
import Derived.Test.YtimckchoekkkfaaDoorKP
import Derived.Test.YtimckchoekkkfaaDoorTie
import Derived.Test.YtimckchoekkkfaaDoorCards
import Derived.Stop.LaidErr
import Derived.Deep.RegionHeld3
namespace Go.Proofs.YtimckchoekkkfaaDoor
set_option linter.unusedSimpArgs false
set_option linter.unusedVariables false
open Go.ChangeShapes Go.WideShapes Go.ChangeAt Go.RowKit Go.Joins Go.Deep Go.Fl

set_option maxRecDepth 100000 in
set_option maxHeartbeats 2000000 in
theorem l_FnExactProfileText (va vl vd : Value) (a l d : List Nat) (w : World) (ha : RFb w va a) (hl : RFb w vl l) (hd : RFb w vd d) (ht : T64 w) : Calls Tryd.prog 5 #[profV va vl vd] w fun e' w' => e' = .returned (.bool true) ∧ Below w.heap.size w w' := by
  obtain ⟨na, fa, ba⟩ := ha
  obtain ⟨nl, fl, bl⟩ := hl
  obtain ⟨nd, fd, bd⟩ := hd
  have HSZ := Lib.hid (fun W => l_szProfile va vl vd _ _ _ W 1048576 (by decide) (by decide) na nl nd)
  have HS := Lib.hid (fun W ua ul ud (h1 : RF W ua a) (h2 : RF W ul l) (h3 : RF W ud d) => s_ProfileText ua ul ud a l d W h1 h2 h3 ba bl bd)
  have HI := Lib.hid (fun W ua ul ud (h1 : RF W ua a) (h2 : RF W ul l) (h3 : RF W ud d) (ht : T64 W) => i_ProfileText ua ul ud a l d W h1 h2 h3 ba bl bd ht)
  have FA := Lib.hid fa
  have FL := Lib.hid fl
  have FD := Lib.hid fd
  have HT := Lib.hid ht
  clear fa fl fd ba bl bd na nl nd ht
  generalize profB a l d = t0 at *
  generalize profOk a l d = g0 at *
  unfold TextOut at HS HI
  generalize (if g0 = true then t0 else ⟨#[]⟩) = t at *
  go_enter Tryd.func5, Tryd.ntmps5
  go_wp2_with fail
  have BB : Hid (Below w.heap.size w (w.alloc (.cells #[va, vl, vd] 42))) := below_alloc (Nat.le_refl _) (Below.refl _ _) _
  have HA : Hid (ProfAt (w.alloc (.cells #[va, vl, vd] 42)) w.heap.size va vl vd) := prof_top _ _ rfl _ _ _ _
  generalize w.alloc (.cells #[va, vl, vd] 42) = w0 at *
  refine (HSZ.out _).mono ?_
  rintro e' w1 ⟨⟨r, rfl, hr⟩, hb1⟩
  replace BB := Lib.hid (step1 BB.out hb1)
  by_cases hneg : r < 0
  · clear hr
    go_wp2
    go_ret
    exact ⟨rfl, BB.out⟩
  have hsum := hr (by omega)
  have hr0 : 0 ≤ r := by omega
  have LA : Hid (a.length ≤ 1048576) := by show _ ≤ _; omega
  have LL : Hid (l.length ≤ 1048576) := by show _ ≤ _; omega
  have LD : Hid (d.length ≤ 1048576) := by show _ ≤ _; omega
  have HCP := Lib.hid (fun W (hb : Below w.heap.size w W) => l_toProfile va vl vd a l d W (RF_below (FA.out LA.out) hb) (RF_below (FL.out LL.out) hb) (RF_below (FD.out LD.out) hb) LA.out LL.out LD.out)
  replace HA := Lib.hid (HA.out.below hb1)
  obtain ⟨h0, h1, h2⟩ := HA.out
  clear hr hb1 hsum hneg
  go_wp2_with fail
  refine (HCP.out _ BB.out).mono ?_
  rintro e' w2 ⟨ua, ul, ud, rfl, r1, r2, r3, hb2⟩
  replace BB := Lib.hid (step1 BB.out hb2)
  replace HA := Lib.hid (HA.out.below hb2)
  obtain ⟨h0, h1, h2⟩ := HA.out
  have HS2 := Lib.hid (HS.out _ ua ul ud r1 r2 r3)
  clear hb2 r1 r2 r3
  go_wp2_with fail
  refine HS2.out.mono ?_
  rintro e' w3 ⟨rfl, hb3⟩
  replace BB := Lib.hid (step1 BB.out hb3)
  replace HA := Lib.hid (HA.out.below hb3)
  clear HS2 hb3 h0 h1 h2
  obtain ⟨h0, h1, h2⟩ := HA.out
  go_wp2_with fail
  refine (HCP.out _ BB.out).mono ?_
  rintro e' w4 ⟨xa, xl, xd, rfl, r1, r2, r3, hb4⟩
  replace BB := Lib.hid (step1 BB.out hb4)
  replace HA := Lib.hid (HA.out.below hb4)
  clear hb4 h0 h1 h2
  obtain ⟨h0, h1, h2⟩ := HA.out
  obtain ⟨q1, e1, rfl, m1⟩ := id r1
  obtain ⟨q2, e2, rfl, m2⟩ := id r2
  obtain ⟨q3, e3, rfl, m3⟩ := id r3
  have R1 := Lib.hid r1
  have R2 := Lib.hid r2
  have R3 := Lib.hid r3
  clear r1 r2 r3 m1 m2 m3
  go_wp2_with fail
  have HX : Hid (ProfAt (w4.alloc (.cells #[.slice q1 a.length e1, .slice q2 l.length e2, .slice q3 d.length e3] 45)) w4.heap.size (.slice q1 a.length e1) (.slice q2 l.length e2) (.slice q3 d.length e3)) := prof_top _ _ rfl _ _ _ _
  replace R1 := Lib.hid (R1.out.alloc (.cells #[.slice q1 a.length e1, .slice q2 l.length e2, .slice q3 d.length e3] 45))
  replace R2 := Lib.hid (R2.out.alloc (.cells #[.slice q1 a.length e1, .slice q2 l.length e2, .slice q3 d.length e3] 45))
  replace R3 := Lib.hid (R3.out.alloc (.cells #[.slice q1 a.length e1, .slice q2 l.length e2, .slice q3 d.length e3] 45))
  replace BB := Lib.hid (below_alloc (Nat.le_refl _) BB.out (.cells #[.slice q1 a.length e1, .slice q2 l.length e2, .slice q3 d.length e3] 45))
  have hA := HA.out.below (below_alloc (Nat.le_refl _) (Below.refl _ _) (.cells #[.slice q1 a.length e1, .slice q2 l.length e2, .slice q3 d.length e3] 45))
  replace HA := Lib.hid hA
  clear hA h0 h1 h2
  obtain ⟨n4, hn4⟩ : ∃ n4, n4 = w4.heap.size := ⟨_, rfl⟩
  rw [← hn4] at HX ⊢
  clear hn4
  generalize w4.alloc (.cells #[.slice q1 a.length e1, .slice q2 l.length e2, .slice q3 d.length e3] 45) = w5 at *
  refine (HI.out _ _ _ _ R1.out R2.out R3.out (T64_below HT.out BB.out)).mono ?_
  rintro e' w6 ⟨rfl, hb6⟩
  replace R1 := Lib.hid (RF_below R1.out hb6)
  replace R2 := Lib.hid (RF_below R2.out hb6)
  replace R3 := Lib.hid (RF_below R3.out hb6)
  replace HX := Lib.hid (HX.out.below hb6)
  replace HA := Lib.hid (HA.out.below hb6)
  replace BB := Lib.hid (step1 BB.out hb6)
  clear hb6
  obtain ⟨h0, h1, h2⟩ := HA.out
  obtain ⟨h3, h4, h5⟩ := HX.out
  have HEQ := Lib.hid (fun W xa xl xd (hb : Below w6.heap.size w6 W) (h1 : RF W xa a) (h2 : RF W xl l) (h3 : RF W xd d) => l_eqProfile _ _ _ xa xl xd a l d W (RF_below R1.out hb) (RF_below R2.out hb) (RF_below R3.out hb) h1 h2 h3)
  go_wp2_with fail
  go_region_held3 (fun w' => (w'.cell? ⟨w.heap.size, 0, none⟩ = some va ∧ w'.cell? ⟨w.heap.size, 1, none⟩ = some vl ∧ w'.cell? ⟨w.heap.size, 2, none⟩ = some vd) ∧ (w'.cell? ⟨n4, 0, none⟩ = some (.slice q1 a.length e1) ∧ w'.cell? ⟨n4, 1, none⟩ = some (.slice q2 l.length e2) ∧ w'.cell? ⟨n4, 2, none⟩ = some (.slice q3 d.length e3)))
    ((refine ⟨HA.out.below ?_, HX.out.below ?_⟩ <;> repeat (first | with_reducible exact Below.refl _ _ | with_reducible refine Below_drewK ?_ | with_reducible refine below_step (Nat.le_refl _) ?_ (by with_reducible assumption))))
    (first
      | ((go_at_call 16; with_reducible refine (HCP.out _ ?_).mono ?_; (focus (repeat (first | with_reducible exact BB.out | with_reducible refine Below_drewK ?_))); rintro e' w7 ⟨ya, yl, yd, rfl, s1, s2, s3, hb7⟩))
      | ((go_at_call 18; with_reducible refine (HEQ.out _ _ _ _ ?_ s1 s2 s3).mono ?_; (focus (repeat (first | with_reducible exact Below.refl _ _ | with_reducible refine Below_drewK ?_ | with_reducible refine below_step (Nat.le_refl _) ?_ (by with_reducible assumption)))); rintro e' w8 ⟨rfl, hb8⟩)))
  all_goals
    go_wp2
    go_ret
    refine ⟨rfl, ?_⟩
    repeat (first | with_reducible exact BB.out | with_reducible refine Below_drewK ?_ | with_reducible refine below_step (Nat.le_refl _) ?_ (by with_reducible assumption))
theorem T64_of_laidP {W : World} (h : laidMetH Tryd.prog Rows.fnExactProfileTextRow.laid W) : T64 W := by
  rw [MakeChecks.laidMetH_plain _ _ _ (by kernel_rfl)] at h
  have h3 := h.tail
  exact Lib.tabIs_of_head (g := 3) (t := 169) (e := 5) (n := 64) (rest := _) (by kernel_rfl) (by kernel_rfl) (by kernel_rfl) (by kernel_rfl) (by kernel_rfl) (by kernel_rfl) h3
set_option maxRecDepth 100000 in
theorem FnExactProfileText_lifted (os : Os) (started : os.Started) (H : Type) (enc : TypeId × Value → H) :
    ReturnsInHanded {} Tryd.checked os 5 .any (fun w args => (Rows.fnExactProfileTextSpec.pre enc Tryd.prog Tryd.f5 [] false w args ∧ laidMetH Tryd.prog Rows.fnExactProfileTextRow.laid w) ∧ sizedMet enc Tryd.prog Tryd.f5 (OpenSpec.ofChange Rows.fnExactProfileTextSpec) false w args)
      (Rows.fnExactProfileTextSpec.post enc Tryd.prog Tryd.f5 false true false false) := by
  refine handed_laid_shaped (C := Tryd.checked) (X := fun w _ => laidMetH Tryd.prog Rows.fnExactProfileTextRow.laid w) (fun _ _ _ hh h => h.of_heap hh) Tryd.own started (by kernel_rfl) Tryd.func5
    (ChangeSpec.witness_shaped (enc := enc) (C := Tryd.checked) (os := os) (X := fun w _ => laidMetH Tryd.prog Rows.fnExactProfileTextRow.laid w) false (World.laidAll Tryd.prog os Rows.fnExactProfileTextRow.laid) #[.agg #[.slice none 0 0, .slice none 0 0, .slice none 0 0]] 8 (World.laidAll_os _ _ _)
      (World.shaped_of_ZipB (by kernel_rfl) (by kernel_rfl)) (by kernel_rfl) (by kernel_rfl) (by kernel_rfl)
      (by rw [MakeChecks.laidMetH_plain _ _ _ (by kernel_rfl)]; exact laidMet_laidAll _ (by kernel_rfl) (by kernel_rfl))) ?_
  intro W base args ds gs before hval0 hW _ hsz0 hlaid hsh _
  have hval : ∀ (j : Nat) t v, Tryd.f5.params[j]? = some t → args[j]? = some v → Value.okWide Tryd.prog W .any base t v := hval0
  have hW' := hW
  obtain ⟨p, q, hA0, hV, rfl, hfz, hnd⟩ := hW
  have hA : DataW.TrodAll enc Tryd.prog W 0 (fun _ => true) true Tryd.f5.params.toList args.toList ds p := hA0
  rw [Tryd.params5] at hA hval
  obtain ⟨rfl, rfl⟩ := trodVars_none hV
  obtain ⟨v0, vs0, d0, ds0, p0, q0, ha0, rfl, rfl, h0, r0⟩ := trodAll_cons hA
  obtain ⟨rfl, rfl, rfl⟩ := trodAll_nil r0
  obtain rfl : args = #[v0] := by apply Array.ext'; exact ha0
  obtain ⟨va, vl, vd, a, l, d, rfl, ra, rl, rd⟩ := open_profile (hval 0 42 v0 rfl rfl) h0
  refine (l_FnExactProfileText va vl vd a l d W ra rl rd (T64_of_laidP hlaid)).mono fun e W' ⟨he, hb⟩ => ?_
  subst he
  exact ⟨_, rfl, post_law Tryd.laidOut (by as_aux_lemma => kernel_rfl) rfl Tryd.underlying4 hW' rfl ⟨rfl, rfl, rfl⟩ hb⟩

theorem FnExactProfileText_row : Rows.FnExactProfileTextSaid :=
  OpenClaim.holds_of_wide 5 Tryd.f5 rfl rfl rfl rfl rfl rfl rfl ⟨rfl, rfl, rfl, rfl, rfl⟩ rfl rfl rfl rfl rfl (by as_aux_lemma => kernel_rfl) Tryd.func5 (by as_aux_lemma => kernel_rfl)
    (of_decide_eq_true (by as_aux_lemma => kernel_rfl)) (by unfold Func.isWrapper; rw [if_neg (of_decide_eq_false (by as_aux_lemma => kernel_rfl))]; exact ⟨rfl, rfl⟩)
    (fun os started H enc _ => FnExactProfileText_lifted os started H enc)

theorem FnExactProfileText_holds : Rows.FnExactProfileTextCardSaid :=
  Claim7.holds_tied_plain_at .later [] Rows.fnExactProfileTextCard.laidKinds true Rows.fnExactProfileTextCard.stood.harness false
    FnExactProfileText_row (fun _ h => by cases h) (by kernel_rfl) (fun _ h => by cases h) fnExactProfileText_row_tie rfl ⟨rfl, rfl⟩ (by kernel_rfl) rfl
    (fun f fn hf hfn => by
      obtain rfl : f = 5 := Option.some.inj ((show Tryd.prog.funcNamed "loop.example/g01256/laws.FnExactProfileText" = some 5 by kernel_rfl).symm.trans hf) |>.symm
      obtain rfl : fn = Tryd.f5 := (Option.some.inj (Tryd.func5.symm.trans hfn)).symm
      exact ⟨by kernel_rfl, fun j t ht => by
        rw [Tryd.params5] at ht
        have hm : t ∈ [42] := by simpa using Array.mem_of_getElem? ht
        have hall : ([42].all fun u => !Tryd.prog.wantsStandIn u) = true := by kernel_rfl
        exact (show Tryd.prog.wantsStandIn t = false by simpa using List.all_eq_true.1 hall t hm)⟩)
    (by kernel_rfl)
end Go.Proofs.YtimckchoekkkfaaDoor
