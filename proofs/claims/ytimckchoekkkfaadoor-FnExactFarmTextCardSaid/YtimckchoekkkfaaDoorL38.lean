/- For every input the law FnExactFarmText answers true. -/
import Derived.Test.YtimckchoekkkfaaDoorKP
import Derived.Test.YtimckchoekkkfaaDoorKI
import Derived.Test.YtimckchoekkkfaaDoorTie
import Derived.Test.YtimckchoekkkfaaDoorCards
import Derived.Stop.LaidErr
import Derived.Deep.RegionHeld3
namespace Go.Proofs.YtimckchoekkkfaaDoor
set_option linter.unusedSimpArgs false
set_option linter.unusedVariables false
open Go.ChangeShapes Go.WideShapes Go.ChangeAt Go.RowKit Go.Joins Go.Deep Go.Fl

set_option maxRecDepth 100000 in
set_option maxHeartbeats 2000000 in
theorem l_FnExactFarmText (vx vy : Value) (x y : List Nat) (r d s : Nat) (w : World) (hx : RFb w vx x) (hy : RFb w vy y) (bz : Bd [r, d, s]) (ht : T64 w) : Calls Tryd.prog 6 #[farmV vx vy r d s] w fun e' w' => e' = .returned (.bool true) ∧ Below w.heap.size w w' := by
  obtain ⟨nx, fx, bx⟩ := hx
  obtain ⟨ny, fy, b_y⟩ := hy
  have HSZ := Lib.hid (fun W => l_szFarm vx vy _ _ r d s W 1048576 (by decide) (by decide) nx ny)
  have HS := Lib.hid (fun W ux uy (h1 : RF W ux x) (h2 : RF W uy y) => s_FarmText ux uy x y r d s W h1 h2 bx b_y bz)
  have HI := Lib.hid (fun W ux uy (h1 : RF W ux x) (h2 : RF W uy y) (ht : T64 W) => i_FarmText ux uy x y r d s W h1 h2 bx b_y bz ht)
  have FX := Lib.hid fx
  have FY := Lib.hid fy
  have HT := Lib.hid ht
  clear fx fy bx b_y bz nx ny ht
  generalize farmB x y r d s = t0 at *
  generalize farmOk x y r d s = g0 at *
  unfold TextOut at HS HI
  generalize (if g0 = true then t0 else ⟨#[]⟩) = t at *
  go_enter Tryd.func6, Tryd.ntmps6
  go_wp2_with fail
  have BB : Hid (Below w.heap.size w (w.alloc (.cells #[vx, vy, .float .f32 r, .float .f32 d, .float .f32 s] 50))) := below_alloc (Nat.le_refl _) (Below.refl _ _) _
  have HA : Hid (FarmAt (w.alloc (.cells #[vx, vy, .float .f32 r, .float .f32 d, .float .f32 s] 50)) w.heap.size vx vy r d s) := farm_top _ _ rfl _ _ _ _ _ _
  generalize w.alloc (.cells #[vx, vy, .float .f32 r, .float .f32 d, .float .f32 s] 50) = w0 at *
  refine (HSZ.out _).mono ?_
  rintro e' w1 ⟨⟨z, rfl, hr⟩, hb1⟩
  replace BB := Lib.hid (step1 BB.out hb1)
  by_cases hneg : z < 0
  · clear hr
    go_wp2
    go_ret
    exact ⟨rfl, BB.out⟩
  have hsum := hr (by omega)
  have hr0 : 0 ≤ z := by omega
  have LX : Hid (x.length ≤ 1048576) := by show _ ≤ _; omega
  have LY : Hid (y.length ≤ 1048576) := by show _ ≤ _; omega
  have HCP := Lib.hid (fun W (hb : Below w.heap.size w W) => l_toFarm vx vy x y r d s W (RF_below (FX.out LX.out) hb) (RF_below (FY.out LY.out) hb) LX.out LY.out)
  replace HA := Lib.hid (HA.out.below hb1)
  obtain ⟨h0, h1, h2, hh3, hh4⟩ := HA.out
  clear hr hb1 hsum hneg
  go_wp2_with fail
  refine (HCP.out _ BB.out).mono ?_
  rintro e' w2 ⟨ux, uy, rfl, r1, r2, hb2⟩
  replace BB := Lib.hid (step1 BB.out hb2)
  replace HA := Lib.hid (HA.out.below hb2)
  obtain ⟨h0, h1, h2, hh3, hh4⟩ := HA.out
  have HS2 := Lib.hid (HS.out _ ux uy r1 r2)
  clear hb2 r1 r2
  go_wp2_with fail
  refine HS2.out.mono ?_
  rintro e' w3 ⟨rfl, hb3⟩
  replace BB := Lib.hid (step1 BB.out hb3)
  replace HA := Lib.hid (HA.out.below hb3)
  clear HS2 hb3 h0 h1 h2 hh3 hh4
  obtain ⟨h0, h1, h2, hh3, hh4⟩ := HA.out
  go_wp2_with fail
  refine (HCP.out _ BB.out).mono ?_
  rintro e' w4 ⟨xa, xl, rfl, r1, r2, hb4⟩
  replace BB := Lib.hid (step1 BB.out hb4)
  replace HA := Lib.hid (HA.out.below hb4)
  clear hb4 h0 h1 h2 hh3 hh4
  obtain ⟨h0, h1, h2, hh3, hh4⟩ := HA.out
  obtain ⟨q1, e1, rfl, m1⟩ := id r1
  obtain ⟨q2, e2, rfl, m2⟩ := id r2
  have R1 := Lib.hid r1
  have R2 := Lib.hid r2
  clear r1 r2 m1 m2
  go_wp2_with fail
  have HX : Hid (FarmAt (w4.alloc (.cells #[.slice q1 x.length e1, .slice q2 y.length e2, .float .f32 r, .float .f32 d, .float .f32 s] 53)) w4.heap.size (.slice q1 x.length e1) (.slice q2 y.length e2) r d s) := farm_top _ _ rfl _ _ _ _ _ _
  replace R1 := Lib.hid (R1.out.alloc (.cells #[.slice q1 x.length e1, .slice q2 y.length e2, .float .f32 r, .float .f32 d, .float .f32 s] 53))
  replace R2 := Lib.hid (R2.out.alloc (.cells #[.slice q1 x.length e1, .slice q2 y.length e2, .float .f32 r, .float .f32 d, .float .f32 s] 53))
  replace BB := Lib.hid (below_alloc (Nat.le_refl _) BB.out (.cells #[.slice q1 x.length e1, .slice q2 y.length e2, .float .f32 r, .float .f32 d, .float .f32 s] 53))
  have hA := HA.out.below (below_alloc (Nat.le_refl _) (Below.refl _ _) (.cells #[.slice q1 x.length e1, .slice q2 y.length e2, .float .f32 r, .float .f32 d, .float .f32 s] 53))
  replace HA := Lib.hid hA
  clear hA h0 h1 h2 hh3 hh4
  obtain ⟨n4, hn4⟩ : ∃ n4, n4 = w4.heap.size := ⟨_, rfl⟩
  rw [← hn4] at HX ⊢
  clear hn4
  generalize w4.alloc (.cells #[.slice q1 x.length e1, .slice q2 y.length e2, .float .f32 r, .float .f32 d, .float .f32 s] 53) = w5 at *
  refine (HI.out _ _ _ R1.out R2.out (T64_below HT.out BB.out)).mono ?_
  rintro e' w6 ⟨rfl, hb6⟩
  replace R1 := Lib.hid (RF_below R1.out hb6)
  replace R2 := Lib.hid (RF_below R2.out hb6)
  replace HX := Lib.hid (HX.out.below hb6)
  replace HA := Lib.hid (HA.out.below hb6)
  replace BB := Lib.hid (step1 BB.out hb6)
  clear hb6
  obtain ⟨h0, h1, h2, hh3, hh4⟩ := HA.out
  obtain ⟨h3, h4, h5, h6, h7⟩ := HX.out
  have HEQ := Lib.hid (fun W xa xl (hb : Below w6.heap.size w6 W) (h1 : RF W xa x) (h2 : RF W xl y) => l_eqFarm _ _ xa xl x y r d s W (RF_below R1.out hb) (RF_below R2.out hb) h1 h2)
  go_wp2_with fail
  go_region_held3 (fun w' => (w'.cell? ⟨w.heap.size, 0, none⟩ = some vx ∧ w'.cell? ⟨w.heap.size, 1, none⟩ = some vy ∧ w'.cell? ⟨w.heap.size, 2, none⟩ = some (.float .f32 r) ∧ w'.cell? ⟨w.heap.size, 3, none⟩ = some (.float .f32 d) ∧ w'.cell? ⟨w.heap.size, 4, none⟩ = some (.float .f32 s)) ∧ (w'.cell? ⟨n4, 0, none⟩ = some (.slice q1 x.length e1) ∧ w'.cell? ⟨n4, 1, none⟩ = some (.slice q2 y.length e2) ∧ w'.cell? ⟨n4, 2, none⟩ = some (.float .f32 r) ∧ w'.cell? ⟨n4, 3, none⟩ = some (.float .f32 d) ∧ w'.cell? ⟨n4, 4, none⟩ = some (.float .f32 s)))
    ((refine ⟨HA.out.below ?_, HX.out.below ?_⟩ <;> repeat (first | with_reducible exact Below.refl _ _ | with_reducible refine Below_drewK ?_ | with_reducible refine below_step (Nat.le_refl _) ?_ (by with_reducible assumption))))
    (first
      | ((go_at_call 21; with_reducible refine (HCP.out _ ?_).mono ?_; (focus (repeat (first | with_reducible exact BB.out | with_reducible refine Below_drewK ?_))); rintro e' w7 ⟨ya, yl, rfl, s1, s2, hb7⟩))
      | ((go_at_call 23; with_reducible refine (HEQ.out _ _ _ ?_ s1 s2).mono ?_; (focus (repeat (first | with_reducible exact Below.refl _ _ | with_reducible refine Below_drewK ?_ | with_reducible refine below_step (Nat.le_refl _) ?_ (by with_reducible assumption)))); rintro e' w8 ⟨rfl, hb8⟩)))
  all_goals
    go_wp2
    go_ret
    refine ⟨rfl, ?_⟩
    repeat (first | with_reducible exact BB.out | with_reducible refine Below_drewK ?_ | with_reducible refine below_step (Nat.le_refl _) ?_ (by with_reducible assumption))
set_option maxRecDepth 100000 in
theorem open_farm {H : Type} {enc : TypeId × Value → H} {w : World} {r : Reach} {b0 base : Nat} {spare : Nat → Bool} {held : Bool} {v : Value} {d : DataW H} {p : List MemPlace}
    (hv : Value.okWide Tryd.prog w r b0 50 v) (h : DataW.Trod enc Tryd.prog w base spare held 50 v d p) : ∃ (vx vy : Value) (x y : List Nat) (a b c : Nat), v = farmV vx vy a b c ∧ RFb w vx x ∧ RFb w vy y ∧ Bd [a, b, c] := by
  obtain ⟨⟨cs⟩, rfl, hsz⟩ := okWide_struct Tryd.underlying50 hv
  have hC : Tryd.prog.cellsOf 50 = 5 := by kernel_rfl
  have hS : Tryd.prog.cellsOf 40 = 1 := by kernel_rfl
  have hF : Tryd.prog.cellsOf 22 = 1 := by kernel_rfl
  have hl : cs.length = 5 := hsz.trans hC
  obtain ⟨fuel, hf⟩ := h
  obtain ⟨xs, n, _, -, -, hlen, hfs⟩ := DataW.trod_struct Tryd.underlying50 hf
  match cs, hl, xs, hlen with
  | [a0, a1, a2, a3, a4], _, [y0, y1, y2, y3, y4], _ =>
    have g0 : DataW.trod enc Tryd.prog w base spare held n 40 [a0] = some y0 := by have h := hfs 0 _ rfl; simpa [Value.cells, hS] using h
    have g1 : DataW.trod enc Tryd.prog w base spare held n 40 [a1] = some y1 := by have h := hfs 1 _ rfl; simpa [Value.cells, hS] using h
    have g2 : DataW.trod enc Tryd.prog w base spare held n 22 [a2] = some y2 := by have h := hfs 2 _ rfl; simpa [Value.cells, hF] using h
    have g3 : DataW.trod enc Tryd.prog w base spare held n 22 [a3] = some y3 := by have h := hfs 3 _ rfl; simpa [Value.cells, hF] using h
    have g4 : DataW.trod enc Tryd.prog w base spare held n 22 [a4] = some y4 := by have h := hfs 4 _ rfl; simpa [Value.cells, hF] using h
    obtain ⟨v0, x0, e0, r0⟩ := trod_RFb g0
    obtain ⟨v1, x1, e1, r1⟩ := trod_RFb g1
    obtain ⟨x2, e2, l2⟩ := trod_float_lt Tryd.underlying22 g2
    obtain ⟨x3, e3, l3⟩ := trod_float_lt Tryd.underlying22 g3
    obtain ⟨x4, e4, l4⟩ := trod_float_lt Tryd.underlying22 g4
    simp only [List.cons.injEq, and_true] at e0 e1 e2 e3 e4
    subst e0 e1 e2 e3 e4
    refine ⟨_, _, _, _, x2, x3, x4, rfl, r0, r1, fun x hx => ?_⟩
    simp only [List.mem_cons, List.not_mem_nil, or_false] at hx
    rcases hx with rfl | rfl | rfl <;> assumption
theorem T64_of_laidF {W : World} (h : laidMetH Tryd.prog Rows.fnExactFarmTextRow.laid W) : T64 W := by
  rw [MakeChecks.laidMetH_plain _ _ _ (by kernel_rfl)] at h
  have h3 := h.tail
  exact Lib.tabIs_of_head (g := 3) (t := 169) (e := 5) (n := 64) (rest := _) (by kernel_rfl) (by kernel_rfl) (by kernel_rfl) (by kernel_rfl) (by kernel_rfl) (by kernel_rfl) h3
set_option maxRecDepth 100000 in
theorem FnExactFarmText_lifted (os : Os) (started : os.Started) (H : Type) (enc : TypeId × Value → H) :
    ReturnsInHanded {} Tryd.checked os 6 .any (fun w args => (Rows.fnExactFarmTextSpec.pre enc Tryd.prog Tryd.f6 [] false w args ∧ laidMetH Tryd.prog Rows.fnExactFarmTextRow.laid w) ∧ sizedMet enc Tryd.prog Tryd.f6 (OpenSpec.ofChange Rows.fnExactFarmTextSpec) false w args)
      (Rows.fnExactFarmTextSpec.post enc Tryd.prog Tryd.f6 false true false false) := by
  refine handed_laid_shaped (C := Tryd.checked) (X := fun w _ => laidMetH Tryd.prog Rows.fnExactFarmTextRow.laid w) (fun _ _ _ hh h => h.of_heap hh) Tryd.own started (by kernel_rfl) Tryd.func6
    (ChangeSpec.witness_shaped (enc := enc) (C := Tryd.checked) (os := os) (X := fun w _ => laidMetH Tryd.prog Rows.fnExactFarmTextRow.laid w) false (World.laidAll Tryd.prog os Rows.fnExactFarmTextRow.laid) #[.agg #[.slice none 0 0, .slice none 0 0, .float .f32 0, .float .f32 0, .float .f32 0]] 8 (World.laidAll_os _ _ _)
      (World.shaped_of_ZipB (by kernel_rfl) (by kernel_rfl)) (by kernel_rfl) (by kernel_rfl) (by kernel_rfl)
      (by rw [MakeChecks.laidMetH_plain _ _ _ (by kernel_rfl)]; exact laidMet_laidAll _ (by kernel_rfl) (by kernel_rfl))) ?_
  intro W base args ds gs before hval0 hW _ hsz0 hlaid hsh _
  have hval : ∀ (j : Nat) t v, Tryd.f6.params[j]? = some t → args[j]? = some v → Value.okWide Tryd.prog W .any base t v := hval0
  have hW' := hW
  obtain ⟨p, q, hA0, hV, rfl, hfz, hnd⟩ := hW
  have hA : DataW.TrodAll enc Tryd.prog W 0 (fun _ => true) true Tryd.f6.params.toList args.toList ds p := hA0
  rw [Tryd.params6] at hA hval
  obtain ⟨rfl, rfl⟩ := trodVars_none hV
  obtain ⟨v0, vs0, d0, ds0, p0, q0, ha0, rfl, rfl, h0, r0⟩ := trodAll_cons hA
  obtain ⟨rfl, rfl, rfl⟩ := trodAll_nil r0
  obtain rfl : args = #[v0] := by apply Array.ext'; exact ha0
  obtain ⟨vx, vy, x, y, a, b, c, rfl, rx, ry, rz⟩ := open_farm (hval 0 50 v0 rfl rfl) h0
  refine (l_FnExactFarmText vx vy x y a b c W rx ry rz (T64_of_laidF hlaid)).mono fun e W' ⟨he, hb⟩ => ?_
  subst he
  exact ⟨_, rfl, post_law Tryd.laidOut (by as_aux_lemma => kernel_rfl) rfl Tryd.underlying4 hW' rfl ⟨rfl, rfl, rfl⟩ hb⟩

theorem FnExactFarmText_row : Rows.FnExactFarmTextSaid :=
  OpenClaim.holds_of_wide 6 Tryd.f6 rfl rfl rfl rfl rfl rfl rfl ⟨rfl, rfl, rfl, rfl, rfl⟩ rfl rfl rfl rfl rfl (by as_aux_lemma => kernel_rfl) Tryd.func6 (by as_aux_lemma => kernel_rfl)
    (of_decide_eq_true (by as_aux_lemma => kernel_rfl)) (by unfold Func.isWrapper; rw [if_neg (of_decide_eq_false (by as_aux_lemma => kernel_rfl))]; exact ⟨rfl, rfl⟩)
    (fun os started H enc _ => FnExactFarmText_lifted os started H enc)

theorem FnExactFarmText_holds : Rows.FnExactFarmTextCardSaid :=
  Claim7.holds_tied_plain_at .later [] Rows.fnExactFarmTextCard.laidKinds true Rows.fnExactFarmTextCard.stood.harness false
    FnExactFarmText_row (fun _ h => by cases h) (by kernel_rfl) (fun _ h => by cases h) fnExactFarmText_row_tie rfl ⟨rfl, rfl⟩ (by kernel_rfl) rfl
    (fun f fn hf hfn => by
      obtain rfl : f = 6 := Option.some.inj ((show Tryd.prog.funcNamed "loop.example/g01256/laws.FnExactFarmText" = some 6 by kernel_rfl).symm.trans hf) |>.symm
      obtain rfl : fn = Tryd.f6 := (Option.some.inj (Tryd.func6.symm.trans hfn)).symm
      exact ⟨by kernel_rfl, fun j t ht => by
        rw [Tryd.params6] at ht
        have hm : t ∈ [50] := by simpa using Array.mem_of_getElem? ht
        have hall : ([50].all fun u => !Tryd.prog.wantsStandIn u) = true := by kernel_rfl
        exact (show Tryd.prog.wantsStandIn t = false by simpa using List.all_eq_true.1 hall t hm)⟩)
    (by kernel_rfl)
end Go.Proofs.YtimckchoekkkfaaDoor
