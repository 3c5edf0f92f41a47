/- For every input the law FnExactJournalOf answers true. -/
import Derived.Test.YtfhmlhocaldioaaDoorTF
import Derived.Test.YtfhmlhocaldioaaDoorTG
import Derived.Test.YtfhmlhocaldioaaDoorTP
import Derived.Test.YtfhmlhocaldioaaDoorTie
import Derived.Test.YtfhmlhocaldioaaDoorCards
import Derived.SliceStrings
import Derived.Stop.LaidErr
namespace Go.Proofs.YtfhmlhocaldioaaDoor
set_option linter.unusedSimpArgs false
set_option linter.unusedVariables false
open Go.ChangeShapes Go.WideShapes Go.ChangeAt Go.RowKit Go.Fl Go.Tx

theorem JOut_is (ss : List ByteArray) : ∃ (T : ByteArray) (b : Bool), ∀ e, JOut ss e → e = .returned (.tuple #[.string T, .bool b]) := by
  by_cases h : JGood ss
  · exact ⟨(jAt ss ss.length).1, true, fun e he => by unfold JOut at he; rw [if_pos h] at he; exact he⟩
  · exact ⟨ByteArray.empty, false, fun e he => by unfold JOut at he; rw [if_neg h] at he; exact he⟩
/-- A step on: what is below, told of the first world. -/
theorem step0 {w w1 w2 : World} (h : Below w.heap.size w w1) (hb : Below w1.heap.size w1 w2) : Below w.heap.size w w2 := below_step (Nat.le_refl _) h hb
set_option maxHeartbeats 1000000 in
theorem l_FnExactJournalOf (v : Value) (ss : List ByteArray) (w : World) (hx : RSw w v ss) (hsm : ∀ s ∈ ss, s.size ≤ maxLen) (ht : TabP w) (M : Int) (hm : w.cell? ⟨0, 0, none⟩ = some (.int .i64 M)) :
    Calls Tryd.prog 4 #[v] w fun e w' => e = .returned (.bool true) ∧ Below w.heap.size w w' := by
  have HXw := Lib.hid hx
  have HT := Lib.hid ht
  have HM : Hid (w.cell? ⟨0, 0, none⟩ = some (.int .i64 M)) := hm
  have HSM := Lib.hid hsm
  obtain ⟨T, b, hJ⟩ := JOut_is ss
  have HJ := Lib.hid hJ
  clear hm hx ht hsm hJ
  go_enter Tryd.func4, Tryd.ntmps4
  go_wp2_with fail
  refine (l_szStringS v ss _ HXw.out HSM.out).mono ?_
  rintro e w' ⟨⟨r, rfl, hr⟩, n0, rfl⟩
  by_cases hneg : r < 0
  · clear hr
    go_wp2
    go_ret
    exact ⟨rfl, (by repeat (first | exact Below.refl _ _ | assumption | refine below_drewN ?_ _ | refine below_alloc (Nat.le_refl _) ?_ _ | (refine Below.setCell ?_ (by first | exact Nat.le_refl _ | (simp; done) | (simp; omega) | omega) _) | (refine below_step (Nat.le_refl _) ?_ (by assumption))))⟩
  obtain ⟨hl, hss⟩ := hr (by omega)
  have HSS := Lib.hid hss
  have HX := Lib.hid (RS_of_w HXw.out hl)
  have B0 : Hid (Below w.heap.size w (w.drewN n0)) := below_drewN (Below.refl _ _) _
  clear hss
  go_wp2_with fail
  refine (l_toStringS v ss _ (RS_below HX.out B0.out) hl).mono ?_
  rintro e w1 ⟨u1, rfl, O1, hb⟩
  have B1 := Lib.hid (step0 B0.out hb)
  have R1 := Lib.hid (RS_of_own O1 (by omega))
  clear hb O1
  go_wp2_with fail
  refine (s_JournalOf u1 ss _ R1.out hl HSS.out).mono ?_
  rintro e w2 ⟨he, hb⟩
  obtain rfl := HJ.out _ he
  have B2 := Lib.hid (step0 B1.out hb)
  clear hb he
  go_wp2_with fail
  refine (l_toStringS v ss _ (RS_below HX.out B2.out) hl).mono ?_
  rintro e w3 ⟨u3, rfl, O3, hb⟩
  have B3 := Lib.hid (step0 B2.out hb)
  have R3 := Lib.hid (RS_of_own O3 (by omega))
  clear hb O3
  go_wp2_with fail
  refine (i_JournalOf u3 ss _ R3.out hl HSS.out (TabP_below HT.out B3.out) M ((B3.out.cell (p := ⟨0, 0, none⟩) (block_lt_of_cell HM.out)).trans HM.out)).mono ?_
  rintro e w4 ⟨he, hb⟩
  obtain rfl := HJ.out _ he
  have B4 := Lib.hid (step0 B3.out hb)
  replace R3 := Lib.hid (RS_below R3.out hb)
  clear hb he
  go_wp2_with fail
  refine (l_toStringS v ss _ (RS_below HX.out B4.out) hl).mono ?_
  rintro e w5 ⟨u5, rfl, O5, hb⟩
  have B5 := Lib.hid (step0 B4.out hb)
  have R5 := Lib.hid (RS_of_own O5 (by omega))
  replace R3 := Lib.hid (RS_below R3.out hb)
  clear hb O5
  go_wp2_with fail
  refine (l_eqStringS u3 u5 ss _ R3.out R5.out).mono ?_
  rintro e w6 ⟨rfl, n6, rfl⟩
  go_wp2
  go_ret
  exact ⟨rfl, below_drewN B5.out _⟩

theorem open_RSw {H : Type} {enc : TypeId × Value → H} {w : World} {r : Reach} {b0 base : Nat} {spare : Nat → Bool} {held : Bool} {v : Value} {d : DataW H} {p : List MemPlace}
    (hv : Value.okWide Tryd.prog w r b0 25 v) (h : DataW.Trod enc Tryd.prog w base spare held 25 v d p) : ∃ ss : List ByteArray, RSw w v ss ∧ ∀ s ∈ ss, s.size ≤ maxLen := by
  obtain ⟨fuel, hf⟩ := h
  obtain ⟨a, len, cap, rfl⟩ := okWide_slice Tryd.underlying25 hv
  rcases open_strings Tryd.underlying25 Tryd.underlying9 (by kernel_rfl) hf with ⟨hcs, -⟩ | ⟨a', len', cap', ss, hcs, -, hl, hm, hlen, -, hcell, hsz⟩
  · simp only [Value.cells] at hcs
    simp at hcs
    obtain ⟨rfl, rfl, rfl⟩ := hcs
    exact ⟨[], ⟨none, 0, rfl, Nat.zero_le _, .inl rfl⟩, fun s h => by cases h⟩
  · simp only [Value.cells] at hcs
    simp at hcs
    obtain ⟨rfl, rfl, rfl⟩ := hcs
    have hlm : len ≤ ss.length := by rw [hlen]; split <;> omega
    refine ⟨ss.take len, ⟨some a', cap, by simp [Nat.min_eq_left hlm], by simp; omega, ?_⟩, fun s hs => hsz s (List.mem_of_mem_take hs)⟩
    by_cases h0 : len = 0
    · left; simp [h0]
    · right
      obtain ⟨b, off, spot⟩ := a'
      have hspot : spot = none := by simpa [Addr.add] using World.cell?_spot (hcell 0 (by omega))
      subst hspot
      refine ⟨b, off, rfl, fun j u hj => ?_⟩
      have hjl : j < len := by
        have := (List.getElem?_eq_some_iff.1 hj).1
        simp at this; omega
      have h1 := hcell j (by omega)
      have e : (⟨b, off, none⟩ : Addr).add j = ⟨b, off + j, none⟩ := by
        unfold Addr.add
        by_cases h : j = 0
        · subst h; simp
        · simp [h]
      rw [e] at h1
      rw [h1]
      rw [← hj]
      simp [hjl, List.getD_eq_getElem?_getD, List.getElem?_eq_getElem (show j < ss.length by omega)]
theorem TabP_of_laid {W : World} (h : laidMetH Tryd.prog Rows.fnExactJournalOfRow.laid W) : TabP W := by
  rw [MakeChecks.laidMetH_plain _ _ _ (by kernel_rfl)] at h
  have h3 := h.tail.tail
  exact Lib.tabIs_of_head (g := 1) (t := 76) (e := 67) (n := 20) (rest := []) (by kernel_rfl) (by kernel_rfl) (by kernel_rfl) (by kernel_rfl) (by kernel_rfl) (by kernel_rfl) h3

set_option maxRecDepth 100000 in
theorem FnExactJournalOf_lifted (os : Os) (started : os.Started) (H : Type) (enc : TypeId × Value → H) :
    ReturnsInHanded {} Tryd.checked os 4 .any (fun w args => (Rows.fnExactJournalOfSpec.pre enc Tryd.prog Tryd.f4 [] false w args ∧ laidMetH Tryd.prog Rows.fnExactJournalOfRow.laid w) ∧ sizedMet enc Tryd.prog Tryd.f4 (OpenSpec.ofChange Rows.fnExactJournalOfSpec) false w args)
      (Rows.fnExactJournalOfSpec.post enc Tryd.prog Tryd.f4 false true false false) := by
  refine handed_laid_shaped (C := Tryd.checked) (X := fun w _ => laidMetH Tryd.prog Rows.fnExactJournalOfRow.laid w) (fun _ _ _ hh h => h.of_heap hh) Tryd.own started (by kernel_rfl) Tryd.func4
    (ChangeSpec.witness_shaped (enc := enc) (C := Tryd.checked) (os := os) (X := fun w _ => laidMetH Tryd.prog Rows.fnExactJournalOfRow.laid w) false (World.laidAll Tryd.prog os Rows.fnExactJournalOfRow.laid) #[.slice none 0 0] 8 (World.laidAll_os _ _ _)
      (World.shaped_of_ZipB (by kernel_rfl) (by kernel_rfl)) (by kernel_rfl) (by kernel_rfl) (by kernel_rfl)
      (by rw [MakeChecks.laidMetH_plain _ _ _ (by kernel_rfl)]; exact laidMet_laidAll _ (by kernel_rfl) (by kernel_rfl))) ?_
  intro W base args ds gs before hval0 hW _ _ hX hsh _
  have hval : ∀ (j : Nat) t v, Tryd.f4.params[j]? = some t → args[j]? = some v → Value.okWide Tryd.prog W .any base t v := hval0
  have hW' := hW
  obtain ⟨p, q, hA0, hV, rfl, hfz, hnd⟩ := hW
  have hA : DataW.TrodAll enc Tryd.prog W 0 (fun _ => true) true Tryd.f4.params.toList args.toList ds p := hA0
  rw [Tryd.params4] at hA hval
  obtain ⟨rfl, rfl⟩ := trodVars_none hV
  obtain ⟨v0, vs0, d0, ds0, p0, q0, ha0, rfl, rfl, h0, r0⟩ := trodAll_cons hA
  obtain ⟨rfl, rfl, rfl⟩ := trodAll_nil r0
  obtain rfl : args = #[v0] := by apply Array.ext'; exact ha0
  obtain ⟨ss, hx, hsm⟩ := open_RSw (hval 0 25 v0 rfl rfl) h0
  obtain ⟨M, hm⟩ := Tryd.laysM146.s1_3 W hsh
  refine (l_FnExactJournalOf v0 ss W hx hsm (TabP_of_laid hX) M hm).mono fun e W' ⟨he, hb⟩ => ?_
  subst he
  exact ⟨_, rfl, post_law Tryd.laidOut (by as_aux_lemma => kernel_rfl) rfl Tryd.underlying4 hW' rfl ⟨rfl, rfl, rfl⟩ hb⟩

theorem FnExactJournalOf_row : Rows.FnExactJournalOfSaid :=
  OpenClaim.holds_of_wide 4 Tryd.f4 rfl rfl rfl rfl rfl rfl rfl ⟨rfl, rfl, rfl, rfl, rfl⟩ rfl rfl rfl rfl rfl (by as_aux_lemma => kernel_rfl) Tryd.func4 (by as_aux_lemma => kernel_rfl)
    (of_decide_eq_true (by as_aux_lemma => kernel_rfl)) (by unfold Func.isWrapper; rw [if_neg (of_decide_eq_false (by as_aux_lemma => kernel_rfl))]; exact ⟨rfl, rfl⟩)
    (fun os started H enc _ => FnExactJournalOf_lifted os started H enc)

theorem FnExactJournalOf_holds : Rows.FnExactJournalOfCardSaid :=
  Claim7.holds_tied_plain_at .later [] Rows.fnExactJournalOfCard.laidKinds true Rows.fnExactJournalOfCard.stood.harness false
    FnExactJournalOf_row (fun _ h => by cases h) (by kernel_rfl) (fun _ h => by cases h) fnExactJournalOf_row_tie rfl ⟨rfl, rfl⟩ (by kernel_rfl) rfl
    (fun f fn hf hfn => by
      obtain rfl : f = 4 := Option.some.inj ((show Tryd.prog.funcNamed "loop.example/g01256/laws.FnExactJournalOf" = some 4 by kernel_rfl).symm.trans hf) |>.symm
      obtain rfl : fn = Tryd.f4 := (Option.some.inj (Tryd.func4.symm.trans hfn)).symm
      exact ⟨by kernel_rfl, fun j t ht => by
        rw [Tryd.params4] at ht
        have hm : t ∈ [25] := by simpa using Array.mem_of_getElem? ht
        have hall : ([25].all fun u => !Tryd.prog.wantsStandIn u) = true := by kernel_rfl
        exact (show Tryd.prog.wantsStandIn t = false by simpa using List.all_eq_true.1 hall t hm)⟩)
    (by kernel_rfl)
end Go.Proofs.YtfhmlhocaldioaaDoor
