/- For every input the law FnExactAirText answers true. -/
import Derived.Test.YtimckchoekkkfaaDoorHE
import Derived.Test.YtimckchoekkkfaaDoorHP
import Derived.Test.YtimckchoekkkfaaDoorTie
import Derived.Test.YtimckchoekkkfaaDoorCards
import Derived.Stop.LaidErr
namespace Go.Proofs.YtimckchoekkkfaaDoor
set_option linter.unusedSimpArgs false
set_option linter.unusedVariables false
open Go.ChangeShapes Go.WideShapes Go.ChangeAt Go.RowKit Go.Joins Go.Deep Go.Fl

theorem l_FnExactAirText (a b c d : Nat) (w : World) (ha : a < 4294967296) (hb : b < 4294967296) (hc : c < 4294967296) (hd : d < 4294967296) (ht : T64 w) : Calls Tryd.prog 3 #[air a b c d] w fun e w' => e = .returned (.bool true) ∧ Below w.heap.size w w' := by
  have HS := Lib.hid (fun W => s_AirText a b c d W ha hb hc hd)
  have HI := Lib.hid (fun W (h : T64 W) => i_AirText a b c d W ha hb hc hd h)
  have HT := Lib.hid ht
  clear ha hb hc hd ht
  generalize textB [a, b, c, d] = t0 at *
  generalize airOk a b c d = g0 at *
  unfold TextOut at HS HI
  generalize (if g0 = true then t0 else ⟨#[]⟩) = t at *
  go_enter Tryd.func3, Tryd.ntmps3
  go_wp2_with fail
  have BB := Lib.hid (show Below w.heap.size w (w.alloc (.cells #[.float .f32 a, .float .f32 b, .float .f32 c, .float .f32 d] 24)) from below_alloc (Nat.le_refl _) (Below.refl _ _) _)
  obtain ⟨w0, hw0⟩ : ∃ w0, w0 = w.alloc (.cells #[.float .f32 a, .float .f32 b, .float .f32 c, .float .f32 d] 24) := ⟨_, rfl⟩
  have HA := Lib.hid (show AirAt w0 w.heap.size a b c d from by rw [hw0]; exact air_top _ _ rfl _ _ _ _ _)
  rw [← hw0] at BB ⊢
  clear hw0
  refine (l_toAir a b c d _).mono ?_
  rintro e w1 ⟨rfl, hb1⟩
  replace BB := Lib.hid (step1 BB.out hb1)
  replace HA := Lib.hid (HA.out.below hb1)
  clear hb1
  go_wp2_with fail
  refine (HS.out _).mono ?_
  rintro e w2 ⟨rfl, hb2⟩
  replace BB := Lib.hid (step1 BB.out hb2)
  obtain ⟨h0, h1, h2, h3⟩ := HA.out.below hb2
  clear hb2
  go_wp2_with fail
  refine (l_toAir a b c d _).mono ?_
  rintro e w3 ⟨rfl, hb3⟩
  replace BB := Lib.hid (step1 BB.out hb3)
  clear hb3 h0 h1 h2 h3
  have HTT := Lib.hid (T64_below HT.out BB.out)
  go_wp2_with fail
  refine (HI.out _ HTT.out).mono ?_
  rintro e w4 ⟨rfl, hb4⟩
  replace BB := Lib.hid (step1 BB.out hb4)
  clear hb4
  go_wp2
  go_ret
  exact ⟨rfl, BB.out⟩

theorem T64_of_laid {W : World} (h : laidMetH Tryd.prog Rows.fnExactAirTextRow.laid W) : T64 W := by
  rw [MakeChecks.laidMetH_plain _ _ _ (by kernel_rfl)] at h
  have h3 := h.tail
  exact Lib.tabIs_of_head (g := 3) (t := 169) (e := 5) (n := 64) (rest := _) (by kernel_rfl) (by kernel_rfl) (by kernel_rfl) (by kernel_rfl) (by kernel_rfl) (by kernel_rfl) h3

set_option maxRecDepth 100000 in
theorem open_air {H : Type} {enc : TypeId × Value → H} {w : World} {r : Reach} {b0 base : Nat} {spare : Nat → Bool} {held : Bool} {v : Value} {d : DataW H} {p : List MemPlace}
    (hv : Value.okWide Tryd.prog w r b0 24 v) (h : DataW.Trod enc Tryd.prog w base spare held 24 v d p) : ∃ a b c d : Nat, v = air a b c d ∧ a < 4294967296 ∧ b < 4294967296 ∧ c < 4294967296 ∧ d < 4294967296 := by
  obtain ⟨c0, c1, c2, c3, y0, y1, y2, y3, n, rfl, -, -, h0, h1, h2, h3⟩ := open_agg4 Tryd.underlying24 (by kernel_rfl) (by kernel_rfl) hv h
  obtain ⟨a, e0, l0⟩ := trod_float_lt Tryd.underlying22 h0
  obtain ⟨b, e1, l1⟩ := trod_float_lt Tryd.underlying22 h1
  obtain ⟨c, e2, l2⟩ := trod_float_lt Tryd.underlying22 h2
  obtain ⟨d', e3, l3⟩ := trod_float_lt Tryd.underlying22 h3
  simp only [List.cons.injEq, and_true] at e0 e1 e2 e3
  subst e0 e1 e2 e3
  exact ⟨a, b, c, d', rfl, l0, l1, l2, l3⟩

set_option maxRecDepth 100000 in
theorem FnExactAirText_lifted (os : Os) (started : os.Started) (H : Type) (enc : TypeId × Value → H) :
    ReturnsInHanded {} Tryd.checked os 3 .any (fun w args => (Rows.fnExactAirTextSpec.pre enc Tryd.prog Tryd.f3 [] false w args ∧ laidMetH Tryd.prog Rows.fnExactAirTextRow.laid w) ∧ sizedMet enc Tryd.prog Tryd.f3 (OpenSpec.ofChange Rows.fnExactAirTextSpec) false w args)
      (Rows.fnExactAirTextSpec.post enc Tryd.prog Tryd.f3 false true false false) := by
  refine handed_laid_shaped (C := Tryd.checked) (X := fun w _ => laidMetH Tryd.prog Rows.fnExactAirTextRow.laid w) (fun _ _ _ hh h => h.of_heap hh) Tryd.own started (by kernel_rfl) Tryd.func3
    (ChangeSpec.witness_shaped (enc := enc) (C := Tryd.checked) (os := os) (X := fun w _ => laidMetH Tryd.prog Rows.fnExactAirTextRow.laid w) false (World.laidAll Tryd.prog os Rows.fnExactAirTextRow.laid) #[.agg #[.float .f32 0, .float .f32 0, .float .f32 0, .float .f32 0]] 8 (World.laidAll_os _ _ _)
      (World.shaped_of_ZipB (by kernel_rfl) (by kernel_rfl)) (by kernel_rfl) (by kernel_rfl) (by kernel_rfl)
      (by rw [MakeChecks.laidMetH_plain _ _ _ (by kernel_rfl)]; exact laidMet_laidAll _ (by kernel_rfl) (by kernel_rfl))) ?_
  intro W base args ds gs before hval0 hW _ hsz0 hlaid hsh _
  have hval : ∀ (j : Nat) t v, Tryd.f3.params[j]? = some t → args[j]? = some v → Value.okWide Tryd.prog W .any base t v := hval0
  have hW' := hW
  obtain ⟨p, q, hA0, hV, rfl, hfz, hnd⟩ := hW
  have hA : DataW.TrodAll enc Tryd.prog W 0 (fun _ => true) true Tryd.f3.params.toList args.toList ds p := hA0
  rw [Tryd.params3] at hA hval
  obtain ⟨rfl, rfl⟩ := trodVars_none hV
  obtain ⟨v0, vs0, d0, ds0, p0, q0, ha0, rfl, rfl, h0, r0⟩ := trodAll_cons hA
  obtain ⟨rfl, rfl, rfl⟩ := trodAll_nil r0
  obtain rfl : args = #[v0] := by apply Array.ext'; exact ha0
  obtain ⟨a, b, c, d, rfl, l0, l1, l2, l3⟩ := open_air (hval 0 24 v0 rfl rfl) h0
  refine (l_FnExactAirText a b c d W l0 l1 l2 l3 (T64_of_laid hlaid)).mono fun e W' ⟨he, hb⟩ => ?_
  subst he
  exact ⟨_, rfl, post_law Tryd.laidOut (by as_aux_lemma => kernel_rfl) rfl Tryd.underlying4 hW' rfl ⟨rfl, rfl, rfl⟩ hb⟩

theorem FnExactAirText_row : Rows.FnExactAirTextSaid :=
  OpenClaim.holds_of_wide 3 Tryd.f3 rfl rfl rfl rfl rfl rfl rfl ⟨rfl, rfl, rfl, rfl, rfl⟩ rfl rfl rfl rfl rfl (by as_aux_lemma => kernel_rfl) Tryd.func3 (by as_aux_lemma => kernel_rfl)
    (of_decide_eq_true (by as_aux_lemma => kernel_rfl)) (by unfold Func.isWrapper; rw [if_neg (of_decide_eq_false (by as_aux_lemma => kernel_rfl))]; exact ⟨rfl, rfl⟩)
    (fun os started H enc _ => FnExactAirText_lifted os started H enc)

theorem FnExactAirText_holds : Rows.FnExactAirTextCardSaid :=
  Claim7.holds_tied_plain_at .later [] Rows.fnExactAirTextCard.laidKinds true Rows.fnExactAirTextCard.stood.harness false
    FnExactAirText_row (fun _ h => by cases h) (by kernel_rfl) (fun _ h => by cases h) fnExactAirText_row_tie rfl ⟨rfl, rfl⟩ (by kernel_rfl) rfl
    (fun f fn hf hfn => by
      obtain rfl : f = 3 := Option.some.inj ((show Tryd.prog.funcNamed "loop.example/g01256/laws.FnExactAirText" = some 3 by kernel_rfl).symm.trans hf) |>.symm
      obtain rfl : fn = Tryd.f3 := (Option.some.inj (Tryd.func3.symm.trans hfn)).symm
      exact ⟨by kernel_rfl, fun j t ht => by
        rw [Tryd.params3] at ht
        have hm : t ∈ [24] := by simpa using Array.mem_of_getElem? ht
        have hall : ([24].all fun u => !Tryd.prog.wantsStandIn u) = true := by kernel_rfl
        exact (show Tryd.prog.wantsStandIn t = false by simpa using List.all_eq_true.1 hall t hm)⟩)
    (by kernel_rfl)
end Go.Proofs.YtimckchoekkkfaaDoor
