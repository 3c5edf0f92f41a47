/- For every input the law FnExactRotorText answers true. -/
import Derived.Test.YtimckchoekkkfaaDoorKR
import Derived.Test.YtimckchoekkkfaaDoorHP
import Derived.Test.YtimckchoekkkfaaDoorTie
import Derived.Test.YtimckchoekkkfaaDoorCards
import Derived.Stop.LaidErr
import Derived.Deep.RegionHeld3
namespace Go.Proofs.YtimckchoekkkfaaDoor
set_option linter.unusedSimpArgs false
set_option linter.unusedVariables false
open Go.ChangeShapes Go.WideShapes Go.ChangeAt Go.RowKit Go.Joins Go.Deep Go.Fl

set_option maxRecDepth 100000 in
set_option maxHeartbeats 2000000 in
theorem l_FnExactRotorText (va vl vd vs : Value) (a l d : List Nat) (cs : List Sta) (c : Int) (hub tip : Nat) (w : World) (ha : RFb w va a) (hl : RFb w vl l) (hd : RFb w vd d) (hs : RTb w vs cs) (bz : Bd [hub, tip]) (ht : T64 w) : Calls Tryd.prog 7 #[rotV va vl vd vs c hub tip] w fun e' w' => e' = .returned (.bool true) ∧ Below w.heap.size w w' := by
  obtain ⟨na, fa, ba⟩ := ha
  obtain ⟨nl, fl, bl⟩ := hl
  obtain ⟨nd, fd, bd⟩ := hd
  obtain ⟨ns, fs, bs⟩ := hs
  have HSZ := Lib.hid (fun W => l_szRotor va vl vd vs _ _ _ _ c hub tip W 1048576 (by decide) (by decide) na nl nd ns)
  have HS := Lib.hid (fun W ua ul ud us (h1 : RF W ua a) (h2 : RF W ul l) (h3 : RF W ud d) (h4 : RT W us cs) => s_RotorText ua ul ud us a l d cs c hub tip W h1 h2 h3 h4 ba bl bd bs bz)
  have HI := Lib.hid (fun W ua ul ud us (h1 : RF W ua a) (h2 : RF W ul l) (h3 : RF W ud d) (h4 : RT W us cs) (ht : T64 W) => i_RotorText ua ul ud us a l d cs c hub tip W h1 h2 h3 h4 ba bl bd bs bz ht)
  have FA := Lib.hid fa
  have FL := Lib.hid fl
  have FD := Lib.hid fd
  have FS := Lib.hid fs
  have HT := Lib.hid ht
  clear fa fl fd fs ba bl bd bs bz na nl nd ns ht
  generalize rotB a l d cs c hub tip = t0 at *
  generalize rotOk (profOk a l d) cs c hub tip = g0 at *
  unfold TextOut at HS HI
  generalize (if g0 = true then t0 else ⟨#[]⟩) = t at *
  go_enter Tryd.func7, Tryd.ntmps7
  go_wp2_with fail
  have BB : Hid (Below w.heap.size w (w.alloc (.cells #[va, vl, vd, vs, .int .i64 c, .float .f32 hub, .float .f32 tip] 59))) := below_alloc (Nat.le_refl _) (Below.refl _ _) _
  have HA : Hid (RotAt (w.alloc (.cells #[va, vl, vd, vs, .int .i64 c, .float .f32 hub, .float .f32 tip] 59)) w.heap.size va vl vd vs c hub tip) := rot_top _ _ rfl _ _ _ _ _ _ _ _
  generalize w.alloc (.cells #[va, vl, vd, vs, .int .i64 c, .float .f32 hub, .float .f32 tip] 59) = w0 at *
  refine (HSZ.out _).mono ?_
  rintro e' w1 ⟨⟨r, rfl, hr⟩, hb1⟩
  replace BB := Lib.hid (step1 BB.out hb1)
  by_cases hneg : r < 0
  · clear hr
    go_wp2
    go_ret
    exact ⟨rfl, BB.out⟩
  have hsum := hr (by omega)
  have hr0 : 0 ≤ r := by omega
  have LA : Hid (a.length ≤ 1048576) := by show _ ≤ _; omega
  have LL : Hid (l.length ≤ 1048576) := by show _ ≤ _; omega
  have LD : Hid (d.length ≤ 1048576) := by show _ ≤ _; omega
  have LS : Hid (cs.length ≤ 1048576) := by show _ ≤ _; omega
  have HCP := Lib.hid (fun W (hb : Below w.heap.size w W) => l_toRotor va vl vd vs a l d cs c hub tip W (RF_below (FA.out LA.out) hb) (RF_below (FL.out LL.out) hb) (RF_below (FD.out LD.out) hb) (RT_below (FS.out LS.out) hb) LA.out LL.out LD.out LS.out)
  replace HA := Lib.hid (HA.out.below hb1)
  obtain ⟨⟨h0, h1, h2⟩, h3, h4, h5, h6⟩ := HA.out
  clear hr hb1 hsum hneg
  go_wp2_with fail
  refine (HCP.out _ BB.out).mono ?_
  rintro e' w2 ⟨ua, ul, ud, us, rfl, r1, r2, r3, r4, hb2⟩
  replace BB := Lib.hid (step1 BB.out hb2)
  replace HA := Lib.hid (HA.out.below hb2)
  have HS2 := Lib.hid (HS.out _ ua ul ud us r1 r2 r3 r4)
  clear hb2 r1 r2 r3 r4
  go_wp2_with fail
  refine HS2.out.mono ?_
  rintro e' w3 ⟨rfl, hb3⟩
  replace BB := Lib.hid (step1 BB.out hb3)
  replace HA := Lib.hid (HA.out.below hb3)
  clear HS2 hb3 h0 h1 h2 h3 h4 h5 h6
  obtain ⟨⟨h0, h1, h2⟩, h3, h4, h5, h6⟩ := HA.out
  go_wp2_with fail
  refine (HCP.out _ BB.out).mono ?_
  rintro e' w4 ⟨xa, xl, xd, xs, rfl, r1, r2, r3, r4, hb4⟩
  replace BB := Lib.hid (step1 BB.out hb4)
  replace HA := Lib.hid (HA.out.below hb4)
  clear hb4 h0 h1 h2 h3 h4 h5 h6
  obtain ⟨q1, e1, rfl, m1⟩ := id r1
  obtain ⟨q2, e2, rfl, m2⟩ := id r2
  obtain ⟨q3, e3, rfl, m3⟩ := id r3
  obtain ⟨q4, e4, rfl, m4⟩ := id r4
  have R1 := Lib.hid r1
  have R2 := Lib.hid r2
  have R3 := Lib.hid r3
  have R4 := Lib.hid r4
  clear r1 r2 r3 r4 m1 m2 m3 m4
  go_wp2_with fail
  have HX : Hid (RotAt (w4.alloc (.cells #[.slice q1 a.length e1, .slice q2 l.length e2, .slice q3 d.length e3, .slice q4 cs.length e4, .int .i64 c, .float .f32 hub, .float .f32 tip] 64)) w4.heap.size (.slice q1 a.length e1) (.slice q2 l.length e2) (.slice q3 d.length e3) (.slice q4 cs.length e4) c hub tip) := rot_top _ _ rfl _ _ _ _ _ _ _ _
  replace R1 := Lib.hid (R1.out.alloc (.cells #[.slice q1 a.length e1, .slice q2 l.length e2, .slice q3 d.length e3, .slice q4 cs.length e4, .int .i64 c, .float .f32 hub, .float .f32 tip] 64))
  replace R2 := Lib.hid (R2.out.alloc (.cells #[.slice q1 a.length e1, .slice q2 l.length e2, .slice q3 d.length e3, .slice q4 cs.length e4, .int .i64 c, .float .f32 hub, .float .f32 tip] 64))
  replace R3 := Lib.hid (R3.out.alloc (.cells #[.slice q1 a.length e1, .slice q2 l.length e2, .slice q3 d.length e3, .slice q4 cs.length e4, .int .i64 c, .float .f32 hub, .float .f32 tip] 64))
  replace R4 := Lib.hid (RT_alloc R4.out (.cells #[.slice q1 a.length e1, .slice q2 l.length e2, .slice q3 d.length e3, .slice q4 cs.length e4, .int .i64 c, .float .f32 hub, .float .f32 tip] 64))
  replace BB := Lib.hid (below_alloc (Nat.le_refl _) BB.out (.cells #[.slice q1 a.length e1, .slice q2 l.length e2, .slice q3 d.length e3, .slice q4 cs.length e4, .int .i64 c, .float .f32 hub, .float .f32 tip] 64))
  have hA := HA.out.below (below_alloc (Nat.le_refl _) (Below.refl _ _) (.cells #[.slice q1 a.length e1, .slice q2 l.length e2, .slice q3 d.length e3, .slice q4 cs.length e4, .int .i64 c, .float .f32 hub, .float .f32 tip] 64))
  replace HA := Lib.hid hA
  clear hA
  obtain ⟨n4, hn4⟩ : ∃ n4, n4 = w4.heap.size := ⟨_, rfl⟩
  rw [← hn4] at HX ⊢
  clear hn4
  generalize w4.alloc (.cells #[.slice q1 a.length e1, .slice q2 l.length e2, .slice q3 d.length e3, .slice q4 cs.length e4, .int .i64 c, .float .f32 hub, .float .f32 tip] 64) = w5 at *
  refine (HI.out _ _ _ _ _ R1.out R2.out R3.out R4.out (T64_below HT.out BB.out)).mono ?_
  rintro e' w6 ⟨rfl, hb6⟩
  replace R1 := Lib.hid (RF_below R1.out hb6)
  replace R2 := Lib.hid (RF_below R2.out hb6)
  replace R3 := Lib.hid (RF_below R3.out hb6)
  replace R4 := Lib.hid (RT_below R4.out hb6)
  replace HX := Lib.hid (HX.out.below hb6)
  replace HA := Lib.hid (HA.out.below hb6)
  replace BB := Lib.hid (step1 BB.out hb6)
  clear hb6
  obtain ⟨⟨h0, h1, h2⟩, h3, h4, h5, h6⟩ := HA.out
  obtain ⟨⟨k0, k1, k2⟩, k3, k4, k5, k6⟩ := HX.out
  have HEQ := Lib.hid (fun W xa xl xd xs (hb : Below w6.heap.size w6 W) (h1 : RF W xa a) (h2 : RF W xl l) (h3 : RF W xd d) (h4 : RT W xs cs) => l_eqRotor _ _ _ _ xa xl xd xs a l d cs c hub tip W (RF_below R1.out hb) (RF_below R2.out hb) (RF_below R3.out hb) (RT_below R4.out hb) h1 h2 h3 h4)
  go_wp2_with fail
  go_region_held3 (fun w' => ((w'.cell? ⟨w.heap.size, 0, none⟩ = some va ∧ w'.cell? ⟨w.heap.size, 1, none⟩ = some vl ∧ w'.cell? ⟨w.heap.size, 2, none⟩ = some vd) ∧ w'.cell? ⟨w.heap.size, 3, none⟩ = some vs ∧ w'.cell? ⟨w.heap.size, 4, none⟩ = some (.int .i64 c) ∧ w'.cell? ⟨w.heap.size, 5, none⟩ = some (.float .f32 hub) ∧ w'.cell? ⟨w.heap.size, 6, none⟩ = some (.float .f32 tip)) ∧ ((w'.cell? ⟨n4, 0, none⟩ = some (.slice q1 a.length e1) ∧ w'.cell? ⟨n4, 1, none⟩ = some (.slice q2 l.length e2) ∧ w'.cell? ⟨n4, 2, none⟩ = some (.slice q3 d.length e3)) ∧ w'.cell? ⟨n4, 3, none⟩ = some (.slice q4 cs.length e4) ∧ w'.cell? ⟨n4, 4, none⟩ = some (.int .i64 c) ∧ w'.cell? ⟨n4, 5, none⟩ = some (.float .f32 hub) ∧ w'.cell? ⟨n4, 6, none⟩ = some (.float .f32 tip)))
    ((refine ⟨HA.out.below ?_, HX.out.below ?_⟩ <;> repeat (first | with_reducible exact Below.refl _ _ | with_reducible refine Below_drewK ?_ | with_reducible refine below_step (Nat.le_refl _) ?_ (by with_reducible assumption))))
    (first
      | ((go_at_call 26; with_reducible refine (HCP.out _ ?_).mono ?_; (focus (repeat (first | with_reducible exact BB.out | with_reducible refine Below_drewK ?_))); rintro e' w7 ⟨ya, yl, yd, ys, rfl, s1, s2, s3, s4, hb7⟩))
      | ((go_at_call 28; with_reducible refine (HEQ.out _ _ _ _ _ ?_ s1 s2 s3 s4).mono ?_; (focus (repeat (first | with_reducible exact Below.refl _ _ | with_reducible refine Below_drewK ?_ | with_reducible refine below_step (Nat.le_refl _) ?_ (by with_reducible assumption)))); rintro e' w8 ⟨rfl, hb8⟩)))
  all_goals
    go_wp2
    go_ret
    refine ⟨rfl, ?_⟩
    repeat (first | with_reducible exact BB.out | with_reducible refine Below_drewK ?_ | with_reducible refine below_step (Nat.le_refl _) ?_ (by with_reducible assumption))
theorem T64_of_laidR {W : World} (h : laidMetH Tryd.prog Rows.fnExactRotorTextRow.laid W) : T64 W := by
  rw [MakeChecks.laidMetH_plain _ _ _ (by kernel_rfl)] at h
  have h3 := h.tail
  exact Lib.tabIs_of_head (g := 3) (t := 169) (e := 5) (n := 64) (rest := _) (by kernel_rfl) (by kernel_rfl) (by kernel_rfl) (by kernel_rfl) (by kernel_rfl) (by kernel_rfl) h3
set_option maxRecDepth 100000 in
theorem FnExactRotorText_lifted (os : Os) (started : os.Started) (H : Type) (enc : TypeId × Value → H) :
    ReturnsInHanded {} Tryd.checked os 7 .any (fun w args => (Rows.fnExactRotorTextSpec.pre enc Tryd.prog Tryd.f7 [] false w args ∧ laidMetH Tryd.prog Rows.fnExactRotorTextRow.laid w) ∧ sizedMet enc Tryd.prog Tryd.f7 (OpenSpec.ofChange Rows.fnExactRotorTextSpec) false w args)
      (Rows.fnExactRotorTextSpec.post enc Tryd.prog Tryd.f7 false true false false) := by
  refine handed_laid_shaped (C := Tryd.checked) (X := fun w _ => laidMetH Tryd.prog Rows.fnExactRotorTextRow.laid w) (fun _ _ _ hh h => h.of_heap hh) Tryd.own started (by kernel_rfl) Tryd.func7
    (ChangeSpec.witness_shaped (enc := enc) (C := Tryd.checked) (os := os) (X := fun w _ => laidMetH Tryd.prog Rows.fnExactRotorTextRow.laid w) false (World.laidAll Tryd.prog os Rows.fnExactRotorTextRow.laid) #[.agg #[.slice none 0 0, .slice none 0 0, .slice none 0 0, .slice none 0 0, .int .i64 0, .float .f32 0, .float .f32 0]] 8 (World.laidAll_os _ _ _)
      (World.shaped_of_ZipB (by kernel_rfl) (by kernel_rfl)) (by kernel_rfl) (by kernel_rfl) (by kernel_rfl)
      (by rw [MakeChecks.laidMetH_plain _ _ _ (by kernel_rfl)]; exact laidMet_laidAll _ (by kernel_rfl) (by kernel_rfl))) ?_
  intro W base args ds gs before hval0 hW _ hsz0 hlaid hsh _
  have hval : ∀ (j : Nat) t v, Tryd.f7.params[j]? = some t → args[j]? = some v → Value.okWide Tryd.prog W .any base t v := hval0
  have hW' := hW
  obtain ⟨p, q, hA0, hV, rfl, hfz, hnd⟩ := hW
  have hA : DataW.TrodAll enc Tryd.prog W 0 (fun _ => true) true Tryd.f7.params.toList args.toList ds p := hA0
  rw [Tryd.params7] at hA hval
  obtain ⟨rfl, rfl⟩ := trodVars_none hV
  obtain ⟨v0, vs0, d0, ds0, p0, q0, ha0, rfl, rfl, h0, r0⟩ := trodAll_cons hA
  obtain ⟨rfl, rfl, rfl⟩ := trodAll_nil r0
  obtain rfl : args = #[v0] := by apply Array.ext'; exact ha0
  obtain ⟨va, vl, vd, vs, a, l, d, cs, c, hub, tip, rfl, ra, rl, rd, rs, rz⟩ := open_rotor (hval 0 59 v0 rfl rfl) h0
  refine (l_FnExactRotorText va vl vd vs a l d cs c hub tip W ra rl rd rs rz (T64_of_laidR hlaid)).mono fun e W' ⟨he, hb⟩ => ?_
  subst he
  exact ⟨_, rfl, post_law Tryd.laidOut (by as_aux_lemma => kernel_rfl) rfl Tryd.underlying4 hW' rfl ⟨rfl, rfl, rfl⟩ hb⟩

theorem FnExactRotorText_row : Rows.FnExactRotorTextSaid :=
  OpenClaim.holds_of_wide 7 Tryd.f7 rfl rfl rfl rfl rfl rfl rfl ⟨rfl, rfl, rfl, rfl, rfl⟩ rfl rfl rfl rfl rfl (by as_aux_lemma => kernel_rfl) Tryd.func7 (by as_aux_lemma => kernel_rfl)
    (of_decide_eq_true (by as_aux_lemma => kernel_rfl)) (by unfold Func.isWrapper; rw [if_neg (of_decide_eq_false (by as_aux_lemma => kernel_rfl))]; exact ⟨rfl, rfl⟩)
    (fun os started H enc _ => FnExactRotorText_lifted os started H enc)

theorem FnExactRotorText_holds : Rows.FnExactRotorTextCardSaid :=
  Claim7.holds_tied_plain_at .later [] Rows.fnExactRotorTextCard.laidKinds true Rows.fnExactRotorTextCard.stood.harness false
    FnExactRotorText_row (fun _ h => by cases h) (by kernel_rfl) (fun _ h => by cases h) fnExactRotorText_row_tie rfl ⟨rfl, rfl⟩ (by kernel_rfl) rfl
    (fun f fn hf hfn => by
      obtain rfl : f = 7 := Option.some.inj ((show Tryd.prog.funcNamed "loop.example/g01256/laws.FnExactRotorText" = some 7 by kernel_rfl).symm.trans hf) |>.symm
      obtain rfl : fn = Tryd.f7 := (Option.some.inj (Tryd.func7.symm.trans hfn)).symm
      exact ⟨by kernel_rfl, fun j t ht => by
        rw [Tryd.params7] at ht
        have hm : t ∈ [59] := by simpa using Array.mem_of_getElem? ht
        have hall : ([59].all fun u => !Tryd.prog.wantsStandIn u) = true := by kernel_rfl
        exact (show Tryd.prog.wantsStandIn t = false by simpa using List.all_eq_true.1 hall t hm)⟩)
    (by kernel_rfl)
end Go.Proofs.YtimckchoekkkfaaDoor
