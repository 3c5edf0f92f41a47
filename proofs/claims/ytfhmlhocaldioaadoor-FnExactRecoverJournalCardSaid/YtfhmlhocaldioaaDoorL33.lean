/- For every input the law FnExactRecoverJournal answers true. -/
import Derived.Test.YtfhmlhocaldioaaDoorTJ
import Derived.Test.YtfhmlhocaldioaaDoorTP
import Derived.Test.YtfhmlhocaldioaaDoorTie
import Derived.Test.YtfhmlhocaldioaaDoorCards
import Derived.Stop.LaidErr
namespace Go.Proofs.YtfhmlhocaldioaaDoor
set_option linter.unusedSimpArgs false
set_option linter.unusedVariables false
open Go.ChangeShapes Go.WideShapes Go.ChangeAt Go.RowKit Go.Fl Go.Tx

set_option maxHeartbeats 1000000 in
theorem l_FnExactRecoverJournal (s : ByteArray) (w : World) (ht : TabP w) (M : Int) (hm : w.cell? ⟨0, 0, none⟩ = some (.int .i64 M)) :
    Calls Tryd.prog 5 #[.string s] w fun e w' => e = .returned (.bool true) ∧ Below w.heap.size w w' := by
  have HT := Lib.hid ht
  have HM : Hid (w.cell? ⟨0, 0, none⟩ = some (.int .i64 M)) := hm
  clear hm ht
  by_cases hl : s.size ≤ 1048576
  case neg =>
    go_enter Tryd.func5, Tryd.ntmps5
    go_wp2
    go_ret
    exact ⟨rfl, (by repeat (first | exact Below.refl _ _ | assumption | refine below_drewN ?_ _ | refine below_alloc (Nat.le_refl _) ?_ _ | (refine Below.setCell ?_ (by first | exact Nat.le_refl _ | (simp; done) | (simp; omega) | omega) _) | (refine below_step (Nat.le_refl _) ?_ (by assumption))))⟩
  go_enter Tryd.func5, Tryd.ntmps5
  go_wp2_with fail
  refine (s_RecoverJournal s _ hl).mono ?_
  rintro e w1 ⟨u3, o, n, b, rfl, O3, hb, HV0⟩
  have B1 := Lib.hid hb
  replace O3 := Lib.hid O3
  have HV := Lib.hid HV0
  have ho := HV0.len
  clear hb HV0
  go_wp2_with fail
  refine (i_RecoverJournal s _ hl (TabP_below HT.out B1.out) M ((B1.out.cell (p := ⟨0, 0, none⟩) (block_lt_of_cell HM.out)).trans HM.out)).mono ?_
  rintro e w2 ⟨u6, o', n', b', rfl, O6, hb, HV0⟩
  obtain ⟨rfl, rfl, rfl⟩ := HV.out.unique HV0
  have D := Lib.hid (apart_of O3.out (Nat.le_refl _) O6)
  have B2 := Lib.hid (step0' B1.out hb)
  replace O3 := Lib.hid (OS_below O3.out hb)
  replace O6 := Lib.hid O6
  have S6 := B1.out.size
  clear hb HV0
  have HEQ := Lib.hid (l_eqStringS u6 u3 o w2 (RS_of_own O6.out (by omega)) (RS_of_own O3.out (by omega)))
  go_wp2_with fail
  refine HEQ.out.mono ?_
  rintro e w' ⟨rfl, n2, rfl⟩
  clear HEQ
  have hb : Below w2.heap.size w2 (w2.drewN n2) := below_drewN (Below.refl _ _) _
  replace B2 := Lib.hid (step0' B2.out hb)
  replace O3 := Lib.hid (OS_below O3.out hb)
  replace O6 := Lib.hid (OS_below O6.out hb)
  clear hb
  go_wp2_with fail
  refine (l_markStringS u6 o 1 1 rfl _ _ O6.out (by omega) (by omega)).mono ?_
  rintro e w4 ⟨rfl, OM, hg⟩
  replace O3 := Lib.hid (kept_apart O3.out hg (fun k h1 h2 => D.out k h2 h1))
  have B4 : Hid (Below w.heap.size w w4) := (B2.out).trans (grownS_below O6.out hg B2.out.size S6)
  replace OM := Lib.hid OM
  clear hg O6 D
  have hml := marksS_length o.length 1
  go_wp2_with fail
  refine (l_heldStringS u6 o.length 1 1 rfl _ (RS_of_own OM.out (by rw [hml]; omega)) (by omega) (by omega)).mono ?_
  rintro e w5 ⟨rfl, hb⟩
  replace O3 := Lib.hid (OS_below O3.out hb)
  replace OM := Lib.hid (OS_below OM.out hb)
  have B5 := Lib.hid (step0' B4.out hb)
  clear hb
  go_wp2_with fail
  refine (i_RecoverJournal s _ hl (TabP_below HT.out B5.out) M ((B5.out.cell (p := ⟨0, 0, none⟩) (block_lt_of_cell HM.out)).trans HM.out)).mono ?_
  rintro e w6 ⟨u11, o', n', b', rfl, O11, hb, HV0⟩
  obtain ⟨rfl, rfl, rfl⟩ := HV.out.unique HV0
  have B6 := Lib.hid (step0' B5.out hb)
  replace O3 := Lib.hid (OS_below O3.out hb)
  replace OM := Lib.hid (OS_below OM.out hb)
  replace O11 := Lib.hid O11
  clear hb HV0
  have HEQ := Lib.hid (l_eqStringS u11 u3 o w6 (RS_of_own O11.out (by omega)) (RS_of_own O3.out (by omega)))
  go_wp2_with fail
  refine HEQ.out.mono ?_
  rintro e w' ⟨rfl, n3, rfl⟩
  clear HEQ
  have hb : Below w6.heap.size w6 (w6.drewN n3) := below_drewN (Below.refl _ _) _
  replace B6 := Lib.hid (step0' B6.out hb)
  replace OM := Lib.hid (OS_below OM.out hb)
  clear hb
  go_wp2_with fail
  refine (l_heldStringS u6 o.length 1 1 rfl _ (RS_of_own OM.out (by rw [hml]; omega)) (by omega) (by omega)).mono ?_
  rintro e w8 ⟨rfl, hb⟩
  have B8 := Lib.hid (step0' B6.out hb)
  clear hb
  go_wp2
  go_ret
  exact ⟨rfl, B8.out⟩
theorem TabP_of_laidR {W : World} (h : laidMetH Tryd.prog Rows.fnExactRecoverJournalRow.laid W) : TabP W := by
  rw [MakeChecks.laidMetH_plain _ _ _ (by kernel_rfl)] at h
  have h3 := h.tail.tail
  exact Lib.tabIs_of_head (g := 1) (t := 76) (e := 67) (n := 20) (rest := []) (by kernel_rfl) (by kernel_rfl) (by kernel_rfl) (by kernel_rfl) (by kernel_rfl) (by kernel_rfl) h3

set_option maxRecDepth 100000 in
theorem FnExactRecoverJournal_lifted (os : Os) (started : os.Started) (H : Type) (enc : TypeId × Value → H) :
    ReturnsInHanded {} Tryd.checked os 5 .any (fun w args => (Rows.fnExactRecoverJournalSpec.pre enc Tryd.prog Tryd.f5 [] false w args ∧ laidMetH Tryd.prog Rows.fnExactRecoverJournalRow.laid w) ∧ sizedMet enc Tryd.prog Tryd.f5 (OpenSpec.ofChange Rows.fnExactRecoverJournalSpec) false w args)
      (Rows.fnExactRecoverJournalSpec.post enc Tryd.prog Tryd.f5 false true false false) := by
  refine handed_laid_shaped (C := Tryd.checked) (X := fun w _ => laidMetH Tryd.prog Rows.fnExactRecoverJournalRow.laid w) (fun _ _ _ hh h => h.of_heap hh) Tryd.own started (by kernel_rfl) Tryd.func5
    (ChangeSpec.witness_shaped (enc := enc) (C := Tryd.checked) (os := os) (X := fun w _ => laidMetH Tryd.prog Rows.fnExactRecoverJournalRow.laid w) false (World.laidAll Tryd.prog os Rows.fnExactRecoverJournalRow.laid) #[.string ByteArray.empty] 8 (World.laidAll_os _ _ _)
      (World.shaped_of_ZipB (by kernel_rfl) (by kernel_rfl)) (by kernel_rfl) (by kernel_rfl) (by kernel_rfl)
      (by rw [MakeChecks.laidMetH_plain _ _ _ (by kernel_rfl)]; exact laidMet_laidAll _ (by kernel_rfl) (by kernel_rfl))) ?_
  intro W base args ds gs before hval0 hW _ _ hX hsh _
  have hval : ∀ (j : Nat) t v, Tryd.f5.params[j]? = some t → args[j]? = some v → Value.okWide Tryd.prog W .any base t v := hval0
  have hW' := hW
  obtain ⟨p, q, hA0, hV, rfl, hfz, hnd⟩ := hW
  have hA : DataW.TrodAll enc Tryd.prog W 0 (fun _ => true) true Tryd.f5.params.toList args.toList ds p := hA0
  rw [Tryd.params5] at hA hval
  obtain ⟨rfl, rfl⟩ := trodVars_none hV
  obtain ⟨v0, vs0, d0, ds0, p0, q0, ha0, rfl, rfl, h0, r0⟩ := trodAll_cons hA
  obtain ⟨rfl, rfl, rfl⟩ := trodAll_nil r0
  obtain rfl : args = #[v0] := by apply Array.ext'; exact ha0
  obtain ⟨s, rfl, -, -, -⟩ := Go.ChangeMaps.open_string Tryd.underlying9 (hval 0 9 v0 rfl rfl) h0
  obtain ⟨M, hm⟩ := Tryd.laysM146.s1_3 W hsh
  refine (l_FnExactRecoverJournal s W (TabP_of_laidR hX) M hm).mono fun e W' ⟨he, hb⟩ => ?_
  subst he
  exact ⟨_, rfl, post_law Tryd.laidOut (by as_aux_lemma => kernel_rfl) rfl Tryd.underlying4 hW' rfl ⟨rfl, rfl, rfl⟩ hb⟩

theorem FnExactRecoverJournal_row : Rows.FnExactRecoverJournalSaid :=
  OpenClaim.holds_of_wide 5 Tryd.f5 rfl rfl rfl rfl rfl rfl rfl ⟨rfl, rfl, rfl, rfl, rfl⟩ rfl rfl rfl rfl rfl (by as_aux_lemma => kernel_rfl) Tryd.func5 (by as_aux_lemma => kernel_rfl)
    (of_decide_eq_true (by as_aux_lemma => kernel_rfl)) (by unfold Func.isWrapper; rw [if_neg (of_decide_eq_false (by as_aux_lemma => kernel_rfl))]; exact ⟨rfl, rfl⟩)
    (fun os started H enc _ => FnExactRecoverJournal_lifted os started H enc)

theorem FnExactRecoverJournal_holds : Rows.FnExactRecoverJournalCardSaid :=
  Claim7.holds_tied_plain_at .later [] Rows.fnExactRecoverJournalCard.laidKinds true Rows.fnExactRecoverJournalCard.stood.harness false
    FnExactRecoverJournal_row (fun _ h => by cases h) (by kernel_rfl) (fun _ h => by cases h) fnExactRecoverJournal_row_tie rfl ⟨rfl, rfl⟩ (by kernel_rfl) rfl
    (fun f fn hf hfn => by
      obtain rfl : f = 5 := Option.some.inj ((show Tryd.prog.funcNamed "loop.example/g01256/laws.FnExactRecoverJournal" = some 5 by kernel_rfl).symm.trans hf) |>.symm
      obtain rfl : fn = Tryd.f5 := (Option.some.inj (Tryd.func5.symm.trans hfn)).symm
      exact ⟨by kernel_rfl, fun j t ht => by
        rw [Tryd.params5] at ht
        have hm : t ∈ [9] := by simpa using Array.mem_of_getElem? ht
        have hall : ([9].all fun u => !Tryd.prog.wantsStandIn u) = true := by kernel_rfl
        exact (show Tryd.prog.wantsStandIn t = false by simpa using List.all_eq_true.1 hall t hm)⟩)
    (by kernel_rfl)
end Go.Proofs.YtfhmlhocaldioaaDoor
