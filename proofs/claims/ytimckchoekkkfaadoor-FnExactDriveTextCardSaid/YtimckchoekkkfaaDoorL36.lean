/- For every input the law FnExactDriveText answers true. -/
import Derived.Test.YtimckchoekkkfaaDoorHGZ
import Derived.Test.YtimckchoekkkfaaDoorHG
import Derived.Test.YtimckchoekkkfaaDoorHH
import Derived.Test.YtimckchoekkkfaaDoorHP
import Derived.Test.YtimckchoekkkfaaDoorTie
import Derived.Test.YtimckchoekkkfaaDoorCards
import Derived.Stop.LaidErr
namespace Go.Proofs.YtimckchoekkkfaaDoor
set_option linter.unusedSimpArgs false
set_option linter.unusedVariables false
open Go.ChangeShapes Go.WideShapes Go.ChangeAt Go.RowKit Go.Joins Go.Deep Go.Fl

set_option maxRecDepth 100000 in
theorem l_FnExactDriveText (i d r l m s c e : Nat) (st : Int) (sp pi en : Nat) (w : World) (hb1 : Bd [i, d, r, l, m, s, c, e]) (hb2 : Bd [sp, pi, en]) (ht : T64 w) : Calls Tryd.prog 4 #[drvV i d r l m s c e st sp pi en] w fun e' w' => e' = .returned (.bool true) ∧ Below w.heap.size w w' := by
  have HS := Lib.hid (fun W => s_DriveText i d r l m s c e st sp pi en W hb1 hb2)
  have HI := Lib.hid (fun W (h : T64 W) => i_DriveText i d r l m s c e st sp pi en W hb1 hb2 h)
  have HT := Lib.hid ht
  clear hb1 hb2 ht
  generalize driveB i d r l m s c e st sp pi en = t0 at *
  generalize drvOk i d r l m s c e st sp pi en = g0 at *
  unfold TextOut at HS HI
  generalize (if g0 = true then t0 else ⟨#[]⟩) = t at *
  go_enter Tryd.func4, Tryd.ntmps4
  go_wp2_with fail
  have BB := Lib.hid (show Below w.heap.size w (w.alloc (.cells #[.float .f32 i, .float .f32 d, .float .f32 r, .float .f32 l, .float .f32 m, .float .f32 s, .float .f32 c, .float .f32 e, .int .i64 st, .float .f32 sp, .float .f32 pi, .float .f32 en] 33)) from below_alloc (Nat.le_refl _) (Below.refl _ _) _)
  obtain ⟨w0, hw0⟩ : ∃ w0, w0 = w.alloc (.cells #[.float .f32 i, .float .f32 d, .float .f32 r, .float .f32 l, .float .f32 m, .float .f32 s, .float .f32 c, .float .f32 e, .int .i64 st, .float .f32 sp, .float .f32 pi, .float .f32 en] 33) := ⟨_, rfl⟩
  have HA := Lib.hid (show DrvAt w0 w.heap.size i d r l m s c e st sp pi en from by rw [hw0]; exact drv_top _ _ rfl _ _ _ _ _ _ _ _ _ _ _ _ _)
  rw [← hw0] at BB ⊢
  clear hw0
  refine (l_toDrive i d r l m s c e st sp pi en _).mono ?_
  rintro e' w1 ⟨rfl, hb1⟩
  replace BB := Lib.hid (step1 BB.out hb1)
  replace HA := Lib.hid (HA.out.below hb1)
  clear hb1
  go_wp2_with fail
  refine (HS.out _).mono ?_
  rintro e' w2 ⟨rfl, hb2⟩
  replace BB := Lib.hid (step1 BB.out hb2)
  obtain ⟨⟨h0, h1, h2, h3, h4, h5, h6, h7⟩, h8, h9, h10, h11⟩ := HA.out.below hb2
  clear hb2
  go_wp2_with fail
  refine (l_toDrive i d r l m s c e st sp pi en _).mono ?_
  rintro e' w3 ⟨rfl, hb3⟩
  replace BB := Lib.hid (step1 BB.out hb3)
  clear hb3 h0 h1 h2 h3 h4 h5 h6 h7 h8 h9 h10 h11
  have HTT := Lib.hid (T64_below HT.out BB.out)
  go_wp2_with fail
  refine (HI.out _ HTT.out).mono ?_
  rintro e' w4 ⟨rfl, hb4⟩
  replace BB := Lib.hid (step1 BB.out hb4)
  clear hb4
  go_wp2
  go_ret
  exact ⟨rfl, BB.out⟩

theorem T64_of_laidD {W : World} (h : laidMetH Tryd.prog Rows.fnExactDriveTextRow.laid W) : T64 W := by
  rw [MakeChecks.laidMetH_plain _ _ _ (by kernel_rfl)] at h
  have h3 := h.tail
  exact Lib.tabIs_of_head (g := 3) (t := 169) (e := 5) (n := 64) (rest := _) (by kernel_rfl) (by kernel_rfl) (by kernel_rfl) (by kernel_rfl) (by kernel_rfl) (by kernel_rfl) h3

theorem Bd8 {a b c d e f g h : Nat} (h0 : a < 4294967296) (h1 : b < 4294967296) (h2 : c < 4294967296) (h3 : d < 4294967296) (h4 : e < 4294967296) (h5 : f < 4294967296) (h6 : g < 4294967296) (h7 : h < 4294967296) : Bd [a, b, c, d, e, f, g, h] := fun x hx => by
  simp only [List.mem_cons, List.not_mem_nil, or_false] at hx
  rcases hx with rfl | rfl | rfl | rfl | rfl | rfl | rfl | rfl <;> assumption
theorem Bd3 {a b c : Nat} (h0 : a < 4294967296) (h1 : b < 4294967296) (h2 : c < 4294967296) : Bd [a, b, c] := fun x hx => by
  simp only [List.mem_cons, List.not_mem_nil, or_false] at hx
  rcases hx with rfl | rfl | rfl <;> assumption
set_option maxRecDepth 100000 in
theorem open_drive {H : Type} {enc : TypeId × Value → H} {w : World} {r : Reach} {b0 base : Nat} {spare : Nat → Bool} {held : Bool} {v : Value} {d : DataW H} {p : List MemPlace}
    (hv : Value.okWide Tryd.prog w r b0 33 v) (h : DataW.Trod enc Tryd.prog w base spare held 33 v d p) : ∃ (x0 x1 x2 x3 x4 x5 x6 x7 : Nat) (st : Int) (x9 x10 x11 : Nat), v = drvV x0 x1 x2 x3 x4 x5 x6 x7 st x9 x10 x11 ∧ Bd [x0, x1, x2, x3, x4, x5, x6, x7] ∧ Bd [x9, x10, x11] := by
  obtain ⟨⟨cs⟩, rfl, hsz⟩ := okWide_struct Tryd.underlying33 hv
  have hC : Tryd.prog.cellsOf 33 = 12 := by kernel_rfl
  have hP : Tryd.prog.cellsOf 31 = 8 := by kernel_rfl
  have hF : Tryd.prog.cellsOf 22 = 1 := by kernel_rfl
  have hI : Tryd.prog.cellsOf 2 = 1 := by kernel_rfl
  have hl : cs.length = 12 := hsz.trans hC
  obtain ⟨fuel, hf⟩ := h
  obtain ⟨xs, n, _, -, -, hlen, hfs⟩ := DataW.trod_struct Tryd.underlying33 hf
  match cs, hl, xs, hlen with
  | [a0, a1, a2, a3, a4, a5, a6, a7, a8, a9, a10, a11], _, [y0, y1, y2, y3, y4], _ =>
    have g0 : DataW.trod enc Tryd.prog w base spare held n 31 [a0, a1, a2, a3, a4, a5, a6, a7] = some y0 := by have h := hfs 0 _ rfl; simpa [Value.cells, hP] using h
    have g1 : DataW.trod enc Tryd.prog w base spare held n 2 [a8] = some y1 := by have h := hfs 1 _ rfl; simpa [Value.cells, hI] using h
    have g2 : DataW.trod enc Tryd.prog w base spare held n 22 [a9] = some y2 := by have h := hfs 2 _ rfl; simpa [Value.cells, hF] using h
    have g3 : DataW.trod enc Tryd.prog w base spare held n 22 [a10] = some y3 := by have h := hfs 3 _ rfl; simpa [Value.cells, hF] using h
    have g4 : DataW.trod enc Tryd.prog w base spare held n 22 [a11] = some y4 := by have h := hfs 4 _ rfl; simpa [Value.cells, hF] using h
    clear hfs hf hv hsz
    obtain ⟨zs, m, _, -, -, zlen, hzs⟩ := DataW.trod_struct Tryd.underlying31 g0
    match zs, zlen with
    | [z0, z1, z2, z3, z4, z5, z6, z7], _ =>
      have k0 : DataW.trod enc Tryd.prog w base spare held m 22 [a0] = some z0 := by have h := hzs 0 _ rfl; simpa [hF] using h
      have k1 : DataW.trod enc Tryd.prog w base spare held m 22 [a1] = some z1 := by have h := hzs 1 _ rfl; simpa [hF] using h
      have k2 : DataW.trod enc Tryd.prog w base spare held m 22 [a2] = some z2 := by have h := hzs 2 _ rfl; simpa [hF] using h
      have k3 : DataW.trod enc Tryd.prog w base spare held m 22 [a3] = some z3 := by have h := hzs 3 _ rfl; simpa [hF] using h
      have k4 : DataW.trod enc Tryd.prog w base spare held m 22 [a4] = some z4 := by have h := hzs 4 _ rfl; simpa [hF] using h
      have k5 : DataW.trod enc Tryd.prog w base spare held m 22 [a5] = some z5 := by have h := hzs 5 _ rfl; simpa [hF] using h
      have k6 : DataW.trod enc Tryd.prog w base spare held m 22 [a6] = some z6 := by have h := hzs 6 _ rfl; simpa [hF] using h
      have k7 : DataW.trod enc Tryd.prog w base spare held m 22 [a7] = some z7 := by have h := hzs 7 _ rfl; simpa [hF] using h
      clear hzs g0
      obtain ⟨x0, e0, l0⟩ := trod_float_lt Tryd.underlying22 k0
      obtain ⟨x1, e1, l1⟩ := trod_float_lt Tryd.underlying22 k1
      obtain ⟨x2, e2, l2⟩ := trod_float_lt Tryd.underlying22 k2
      obtain ⟨x3, e3, l3⟩ := trod_float_lt Tryd.underlying22 k3
      obtain ⟨x4, e4, l4⟩ := trod_float_lt Tryd.underlying22 k4
      obtain ⟨x5, e5, l5⟩ := trod_float_lt Tryd.underlying22 k5
      obtain ⟨x6, e6, l6⟩ := trod_float_lt Tryd.underlying22 k6
      obtain ⟨x7, e7, l7⟩ := trod_float_lt Tryd.underlying22 k7
      obtain ⟨st, es, -, -⟩ := DataW.trod_int Tryd.underlying2 g1
      obtain ⟨x9, e9, l9⟩ := trod_float_lt Tryd.underlying22 g2
      obtain ⟨x10, e10, l10⟩ := trod_float_lt Tryd.underlying22 g3
      obtain ⟨x11, e11, l11⟩ := trod_float_lt Tryd.underlying22 g4
      simp only [List.cons.injEq, and_true] at e0 e1 e2 e3 e4 e5 e6 e7 es e9 e10 e11
      subst e0 e1 e2 e3 e4 e5 e6 e7 es e9 e10 e11
      exact ⟨x0, x1, x2, x3, x4, x5, x6, x7, st, x9, x10, x11, rfl, Bd8 l0 l1 l2 l3 l4 l5 l6 l7, Bd3 l9 l10 l11⟩
set_option maxRecDepth 100000 in
theorem FnExactDriveText_lifted (os : Os) (started : os.Started) (H : Type) (enc : TypeId × Value → H) :
    ReturnsInHanded {} Tryd.checked os 4 .any (fun w args => (Rows.fnExactDriveTextSpec.pre enc Tryd.prog Tryd.f4 [] false w args ∧ laidMetH Tryd.prog Rows.fnExactDriveTextRow.laid w) ∧ sizedMet enc Tryd.prog Tryd.f4 (OpenSpec.ofChange Rows.fnExactDriveTextSpec) false w args)
      (Rows.fnExactDriveTextSpec.post enc Tryd.prog Tryd.f4 false true false false) := by
  refine handed_laid_shaped (C := Tryd.checked) (X := fun w _ => laidMetH Tryd.prog Rows.fnExactDriveTextRow.laid w) (fun _ _ _ hh h => h.of_heap hh) Tryd.own started (by kernel_rfl) Tryd.func4
    (ChangeSpec.witness_shaped (enc := enc) (C := Tryd.checked) (os := os) (X := fun w _ => laidMetH Tryd.prog Rows.fnExactDriveTextRow.laid w) false (World.laidAll Tryd.prog os Rows.fnExactDriveTextRow.laid) #[.agg #[.float .f32 0, .float .f32 0, .float .f32 0, .float .f32 0, .float .f32 0, .float .f32 0, .float .f32 0, .float .f32 0, .int .i64 0, .float .f32 0, .float .f32 0, .float .f32 0]] 8 (World.laidAll_os _ _ _)
      (World.shaped_of_ZipB (by kernel_rfl) (by kernel_rfl)) (by kernel_rfl) (by kernel_rfl) (by kernel_rfl)
      (by rw [MakeChecks.laidMetH_plain _ _ _ (by kernel_rfl)]; exact laidMet_laidAll _ (by kernel_rfl) (by kernel_rfl))) ?_
  intro W base args ds gs before hval0 hW _ hsz0 hlaid hsh _
  have hval : ∀ (j : Nat) t v, Tryd.f4.params[j]? = some t → args[j]? = some v → Value.okWide Tryd.prog W .any base t v := hval0
  have hW' := hW
  obtain ⟨p, q, hA0, hV, rfl, hfz, hnd⟩ := hW
  have hA : DataW.TrodAll enc Tryd.prog W 0 (fun _ => true) true Tryd.f4.params.toList args.toList ds p := hA0
  rw [Tryd.params4] at hA hval
  obtain ⟨rfl, rfl⟩ := trodVars_none hV
  obtain ⟨v0, vs0, d0, ds0, p0, q0, ha0, rfl, rfl, h0, r0⟩ := trodAll_cons hA
  obtain ⟨rfl, rfl, rfl⟩ := trodAll_nil r0
  obtain rfl : args = #[v0] := by apply Array.ext'; exact ha0
  obtain ⟨x0, x1, x2, x3, x4, x5, x6, x7, st, x9, x10, x11, rfl, l0, l1⟩ := open_drive (hval 0 33 v0 rfl rfl) h0
  refine (l_FnExactDriveText x0 x1 x2 x3 x4 x5 x6 x7 st x9 x10 x11 W l0 l1 (T64_of_laidD hlaid)).mono fun e W' ⟨he, hb⟩ => ?_
  subst he
  exact ⟨_, rfl, post_law Tryd.laidOut (by as_aux_lemma => kernel_rfl) rfl Tryd.underlying4 hW' rfl ⟨rfl, rfl, rfl⟩ hb⟩

theorem FnExactDriveText_row : Rows.FnExactDriveTextSaid :=
  OpenClaim.holds_of_wide 4 Tryd.f4 rfl rfl rfl rfl rfl rfl rfl ⟨rfl, rfl, rfl, rfl, rfl⟩ rfl rfl rfl rfl rfl (by as_aux_lemma => kernel_rfl) Tryd.func4 (by as_aux_lemma => kernel_rfl)
    (of_decide_eq_true (by as_aux_lemma => kernel_rfl)) (by unfold Func.isWrapper; rw [if_neg (of_decide_eq_false (by as_aux_lemma => kernel_rfl))]; exact ⟨rfl, rfl⟩)
    (fun os started H enc _ => FnExactDriveText_lifted os started H enc)

theorem FnExactDriveText_holds : Rows.FnExactDriveTextCardSaid :=
  Claim7.holds_tied_plain_at .later [] Rows.fnExactDriveTextCard.laidKinds true Rows.fnExactDriveTextCard.stood.harness false
    FnExactDriveText_row (fun _ h => by cases h) (by kernel_rfl) (fun _ h => by cases h) fnExactDriveText_row_tie rfl ⟨rfl, rfl⟩ (by kernel_rfl) rfl
    (fun f fn hf hfn => by
      obtain rfl : f = 4 := Option.some.inj ((show Tryd.prog.funcNamed "loop.example/g01256/laws.FnExactDriveText" = some 4 by kernel_rfl).symm.trans hf) |>.symm
      obtain rfl : fn = Tryd.f4 := (Option.some.inj (Tryd.func4.symm.trans hfn)).symm
      exact ⟨by kernel_rfl, fun j t ht => by
        rw [Tryd.params4] at ht
        have hm : t ∈ [33] := by simpa using Array.mem_of_getElem? ht
        have hall : ([33].all fun u => !Tryd.prog.wantsStandIn u) = true := by kernel_rfl
        exact (show Tryd.prog.wantsStandIn t = false by simpa using List.all_eq_true.1 hall t hm)⟩)
    (by kernel_rfl)
end Go.Proofs.YtimckchoekkkfaaDoor
