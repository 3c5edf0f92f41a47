/- Walks: the longest cycle. -/
import Derived.Test.YtmpmnhnobgidoaaE
namespace Go.Proofs.Ytmpmnhnobgidoaa
set_option linter.unusedSimpArgs false
set_option linter.unusedVariables false
open Go.RowKit Go.Fl

theorem wp_world {P : Program} {c : Code} {Q : Exit → Act → World → Prop} {a : Act} {w : World} (h : ∀ w', Hid (w' = w) → c.wp P Q a w') : c.wp P Q a w := h w rfl
def rng (c : Cyc) : Nat := fa .sub .f32 c.hi c.lo
def rngAt (cs : List Cyc) (k : Nat) : Nat := rng (cs.getD k zeroCyc)
def bestAt (cs : List Cyc) : Nat → Nat
  | 0 => 0
  | k + 1 => if fgt .f32 (rngAt cs k) (rngAt cs (bestAt cs k)) then k else bestAt cs k
theorem bestAt_lt (cs : List Cyc) (h : 1 ≤ cs.length) : ∀ k, k ≤ cs.length → bestAt cs k < cs.length
  | 0, _ => h
  | k + 1, hk => by
    unfold bestAt
    split
    · exact hk
    · exact bestAt_lt cs h k (by omega)
theorem cn_rng (c : Cyc) : cn .f32 (rng c) = rng c := cn_fa _ _ _ _
theorem cn_rngAt (cs : List Cyc) (k : Nat) : cn .f32 (rngAt cs k) = rngAt cs k := cn_rng _
theorem fgt_is {r q x y : Nat} {b : Bool} (h1 : cn .f32 r = x) (h2 : cn .f32 q = y) (hx : cn .f32 x = x) (hy : cn .f32 y = y) (hf : fgt .f32 x y = b) : (FloatKind.f32.format.order r q == some .gt) = b := by
  rw [od_congr (h1.trans hx.symm) (h2.trans hy.symm)]; exact hf
theorem rngAt_of {cs : List Cyc} {k : Nat} (hk : k < cs.length) : rngAt cs k = fa .sub .f32 cs[k].hi cs[k].lo := by simp [rngAt, rng, hk]
def longGood (cs : List Cyc) : Bool := areCyc cs && decide (1 ≤ cs.length)
/-- The place, if all is good. -/
def place (good : Bool) (I S : Nat) : Nat := if good && fin .f32 S then I else 0
/-- What a function gives that has a place, a number and whether it succeeds. -/
def Num1I (good : Bool) (I : Nat) (S : Nat) (w : World) (e : Ending) (w' : World) : Prop :=
  ∃ r, e = .returned (.tuple #[.int .i64 (place good I S : Nat), .float .f32 r, .bool (good && fin .f32 S)]) ∧ cn .f32 r = cn .f32 (if good then num S else 0) ∧ Below w.heap.size w w'
theorem Num1I.no {good : Bool} {I S : Nat} {w w' : World} (hg : good = false) (hb : Below w.heap.size w w') : Num1I good I S w (.returned (.tuple #[.int .i64 0, .float .f32 0, .bool false])) w' := by
  subst hg
  exact ⟨0, rfl, rfl, hb⟩
theorem Num1I.inf {good : Bool} {I S : Nat} {w w' : World} (hf : fin .f32 S = false) (hb : Below w.heap.size w w') : Num1I good I S w (.returned (.tuple #[.int .i64 0, .float .f32 0, .bool false])) w' := by
  refine ⟨0, by unfold place; rw [hf, Bool.and_false]; rfl, ?_, hb⟩
  unfold num
  rw [hf]
  split <;> rfl
theorem Num1I.ok {good : Bool} {I S r : Nat} {w w' : World} (hg : good = true) (hf : fin .f32 S = true) (hr : cn .f32 r = cn .f32 S) (hb : Below w.heap.size w w') : Num1I good I S w (.returned (.tuple #[.int .i64 (I : Int), .float .f32 r, .bool true])) w' := by
  subst hg
  exact ⟨r, by unfold place; rw [hf]; rfl, by unfold num; rw [hf]; exact hr, hb⟩
theorem cyc_top (w : World) (k : Nat) (hk : k = w.heap.size) (lo hi : Nat) (wh : Bool) (t : TypeId) : CycAt (w.alloc (.cells #[.float .f32 lo, .float .f32 hi, .bool wh] t)) k 0 ⟨lo, hi, wh⟩ := by
  subst hk
  refine ⟨?_, ?_, ?_⟩ <;> (rw [cell_of_row _ _ _ _ t (0, 0) (heap_alloc_new w _)]; rfl)
/-- Of a cycle's cells, in every later world. -/
theorem CycAt.later {w : World} {b o : Nat} {c : Cyc} (h : CycAt w b o c) (x : Later w) : CycAt x.to b o c := ⟨x.cell h.1, x.cell h.2.1, x.cell h.2.2⟩
theorem CycAt.below {w w' : World} {b o : Nat} {c : Cyc} (h : CycAt w b o c) (hb : Below w.heap.size w w') : CycAt w' b o c :=
  ⟨(hb.cell (p := ⟨b, o, none⟩) (block_lt_of_cell h.1)).trans h.1, (hb.cell (p := ⟨b, o + 1, none⟩) (block_lt_of_cell h.2.1)).trans h.2.1, (hb.cell (p := ⟨b, o + 2, none⟩) (block_lt_of_cell h.2.2)).trans h.2.2⟩
def RngRel (F : Nat) (f : FuncId) (args : Array Value) (u : Value) : Prop := ∀ c, args = #[cyc c] → f = F → ∃ r, u = .float .f32 r ∧ cn .f32 r = rng c
theorem i_rangeOf (c : Cyc) (w : World) : Calls Try.prog 60 #[cyc c] w fun e w' => (∃ r, e = .returned (.float .f32 r) ∧ cn .f32 r = rng c) ∧ Below w.heap.size w w' := by
  obtain ⟨lo, hi, wh⟩ := c
  go_enter Try.func60, Try.ntmps60
  go_wp2_with (refine wpList_fa rfl rfl rfl rfl rfl (by first | assumption | exact hrfl _) (by first | assumption | exact hrfl _) ?_; intro r n hr)
  go_ret
  exact ⟨⟨_, rfl, by rw [hr.out]; simp only [fa_cn_left, fa_cn_right]; rfl⟩, (by repeat (first | exact Below.refl _ _ | assumption | refine below_drewN ?_ _ | refine below_alloc (Nat.le_refl _) ?_ _ | (refine Below.setCell ?_ (by first | exact Nat.le_refl _ | (simp; done) | (simp; omega) | omega) _) | (refine below_step (Nat.le_refl _) ?_ (by assumption))))⟩
set_option maxHeartbeats 2000000 in
theorem i_LongestCycle (v : Value) (cs : List Cyc) (w : World) (hx : RC w v cs) : Calls Try.prog 24 #[v] w (Num1I (longGood cs) (bestAt cs cs.length) (rngAt cs (bestAt cs cs.length)) w) := by
  obtain ⟨p1, cap1, rfl, hm1, hc1⟩ := id hx
  have HX := Lib.hid hx
  have HC1 := Lib.hid hc1
  clear hx hc1
  by_cases hg : areCyc cs = true ∧ 1 ≤ cs.length
  case neg =>
    cases ha : areCyc cs
    · have HA := Lib.hid ha
      clear ha hg
      go_enter Try.func24, Try.ntmps24
      go_wp2_with (go_at_call 23; refine (i_AreCycles _ cs _ HX.out).mono ?_; rintro e w' ⟨rfl, hb⟩; rw [HA.out])
      go_ret3
      exact Num1I.no (by unfold longGood; rw [HA.out]; rfl) (by repeat (first | exact Below.refl _ _ | assumption | refine below_drewN ?_ _ | refine below_alloc (Nat.le_refl _) ?_ _ | (refine Below.setCell ?_ (by first | exact Nat.le_refl _ | (simp; done) | (simp; omega) | omega) _) | (refine below_step (Nat.le_refl _) ?_ (by assumption))))
    · have HA := Lib.hid ha
      have h0 : cs.length = 0 := by by_cases h : cs.length = 0; · exact h
                                    exact absurd ⟨ha, by omega⟩ hg
      clear ha hg
      rw [h0] at HX
      rw [h0]
      go_enter Try.func24, Try.ntmps24
      go_wp2_with (go_at_call 23; refine (i_AreCycles _ cs _ HX.out).mono ?_; rintro e w' ⟨rfl, hb⟩; rw [HA.out])
      go_ret3
      exact Num1I.no (by unfold longGood; rw [HA.out, h0]; rfl) (by repeat (first | exact Below.refl _ _ | assumption | refine below_drewN ?_ _ | refine below_alloc (Nat.le_refl _) ?_ _ | (refine Below.setCell ?_ (by first | exact Nat.le_refl _ | (simp; done) | (simp; omega) | omega) _) | (refine below_step (Nat.le_refl _) ?_ (by assumption))))
  obtain ⟨ha, hl⟩ := hg
  have HA := Lib.hid ha
  have HG : Hid (longGood cs = true) := by show _ = _; unfold longGood; rw [ha]; simp [hl]
  have HBL := Lib.hid (bestAt_lt cs hl)
  obtain ⟨b1, o1, rfl, hcell1⟩ := HC1.out.resolve_left (by omega)
  have HC := Lib.hid hcell1
  clear ha hcell1
  have hpos : 0 < cs.length := by omega
  have hz0 : ((cs.length : Int) == 0) = false := beq_eq_false_iff_ne.2 (by omega)
  go_enter Try.func24, Try.ntmps24
  go_wp2_with (go_at_call 23; refine (i_AreCycles _ cs _ HX.out).mono ?_; rintro e w' ⟨rfl, hb⟩; rw [HA.out])
  go_loopw [5, 20] (fun t i wr => ∃ k : Nat, k ≤ cs.length ∧ i = .int .i64 k ∧ t = .int .i64 (bestAt cs k : Nat) ∧ Below w.heap.size w wr) (fun _ i _ => cs.length - (intOf i).toNat)
  case atStart => exact ⟨0, Nat.zero_le _, rfl, rfl, (by repeat (first | exact Below.refl _ _ | assumption | refine below_drewN ?_ _ | refine below_alloc (Nat.le_refl _) ?_ _ | (refine Below.setCell ?_ (by first | exact Nat.le_refl _ | (simp; done) | (simp; omega) | omega) _) | (refine below_step (Nat.le_refl _) ?_ (by assumption))))⟩
  case round =>
    rename_i w1 _
    obtain ⟨k, hk, rfl, rfl, hb0⟩ := hrel
    have HB0 := Lib.hid hb0
    have hbl := HBL.out k hk
    clear hb0
    by_cases hlt : k < cs.length
    · obtain ⟨g1, g2, g3⟩ := CycAt_of HC.out k hlt
      obtain ⟨f1, f2, f3⟩ := CycAt_of HC.out (bestAt cs k) hbl
      have HRK := Lib.hid (rngAt_of hlt)
      have HRB := Lib.hid (rngAt_of hbl)
      have g1 := (HB0.out.cell (p := ⟨b1, o1 + k * 3, none⟩) (block_lt_of_cell g1)).trans g1
      have g2 := (HB0.out.cell (p := ⟨b1, o1 + k * 3 + 1, none⟩) (block_lt_of_cell g2)).trans g2
      have g3 := (HB0.out.cell (p := ⟨b1, o1 + k * 3 + 2, none⟩) (block_lt_of_cell g3)).trans g3
      have f1 := (HB0.out.cell (p := ⟨b1, o1 + bestAt cs k * 3, none⟩) (block_lt_of_cell f1)).trans f1
      have f2 := (HB0.out.cell (p := ⟨b1, o1 + bestAt cs k * 3 + 1, none⟩) (block_lt_of_cell f2)).trans f2
      have f3 := (HB0.out.cell (p := ⟨b1, o1 + bestAt cs k * 3 + 2, none⟩) (block_lt_of_cell f3)).trans f3
      generalize cs[k] = c at g1 g2 g3 HRK
      generalize cs[bestAt cs k] = d at f1 f2 f3 HRB
      obtain ⟨lo, hi, wh⟩ := c
      obtain ⟨lo', hi', wh'⟩ := d
      simp only at g1 g2 g3 f1 f2 f3
      have hB : Hid (bestAt cs (k + 1) = if fgt .f32 (rngAt cs k) (rngAt cs (bestAt cs k)) then k else bestAt cs k) := rfl
      go_wp2_with fail
      refine wp_world fun W HW => ?_
      have hbW : Below wr.heap.size wr W := by rw [HW.out]; exact (by repeat (first | exact Below.refl _ _ | assumption | refine below_drewN ?_ _ | refine below_alloc (Nat.le_refl _) ?_ _ | (refine Below.setCell ?_ (by first | exact Nat.le_refl _ | (simp; done) | (simp; omega) | omega) _) | (refine below_step (Nat.le_refl _) ?_ (by assumption))))
      obtain ⟨t1, t2, t3⟩ : (∀ x : Later W, x.to.cell? ⟨wr.heap.size, 0, none⟩ = some (.float .f32 lo)) ∧ (∀ x : Later W, x.to.cell? ⟨wr.heap.size, 1, none⟩ = some (.float .f32 hi)) ∧ (∀ x : Later W, x.to.cell? ⟨wr.heap.size, 2, none⟩ = some (.bool wh)) := by
        have T : CycAt W wr.heap.size 0 ⟨lo, hi, wh⟩ := by rw [HW.out]; exact cyc_top _ _ rfl _ _ _ _
        exact ⟨fun x => (T.later x).1, fun x => (T.later x).2.1, fun x => (T.later x).2.2⟩
      obtain ⟨e1, e2, e3⟩ : (∀ x : Later W, x.to.cell? ⟨b1, o1 + bestAt cs k * 3, none⟩ = some (.float .f32 lo')) ∧ (∀ x : Later W, x.to.cell? ⟨b1, o1 + bestAt cs k * 3 + 1, none⟩ = some (.float .f32 hi')) ∧ (∀ x : Later W, x.to.cell? ⟨b1, o1 + bestAt cs k * 3 + 2, none⟩ = some (.bool wh')) := by
        have T : CycAt W b1 (o1 + bestAt cs k * 3) ⟨lo', hi', wh'⟩ := CycAt.below ⟨f1, f2, f3⟩ hbW
        exact ⟨fun x => (T.later x).1, fun x => (T.later x).2.1, fun x => (T.later x).2.2⟩
      have HBW := Lib.hid hbW
      clear f1 f2 f3 g1 g2 g3 hbW
      cases hf : fgt .f32 (rngAt cs k) (rngAt cs (bestAt cs k))
      all_goals
        have HF := Lib.hid hf
        clear hf
        ((refine wp_region_rl_lit (RngRel 60) (by kernel_rfl) (by kernel_rfl) ?_); (refine wpRl_det' (by kernel_rfl) (fun K hK => ?_); go_simp; refine hK _ ?_; clear hK K); (refine wpRl_call1 (f := 60) (X := cyc ⟨lo, hi, wh⟩) rfl (by kernel_rfl) rfl (run_enter Try.func60 (by kernel_rfl) rfl) (fun x => (i_rangeOf ⟨lo, hi, wh⟩ _).mono (fun e w' ⟨he, hn⟩ => by obtain ⟨r, rfl, hr⟩ := he; exact ⟨_, rfl, fun c hc _ => ⟨r, rfl, by cases hc; exact hr⟩, hn⟩)) ?_; intro v hv; obtain ⟨r, rfl, hr⟩ := hv _ rfl rfl; replace hr := Lib.hid hr); (iterate 4 (refine wpRl_det' (by kernel_rfl) (fun K hK => ?_); go_simp; refine hK _ ?_; clear hK K)); (refine wpRl_call1 (f := 60) (X := cyc ⟨lo', hi', wh'⟩) rfl (by kernel_rfl) rfl (run_enter Try.func60 (by kernel_rfl) rfl) (fun x => (i_rangeOf ⟨lo', hi', wh'⟩ _).mono (fun e w' ⟨he, hn⟩ => by obtain ⟨r, rfl, hr⟩ := he; exact ⟨_, rfl, fun c hc _ => ⟨r, rfl, by cases hc; exact hr⟩, hn⟩)) ?_; intro v hv; obtain ⟨q, rfl, hq⟩ := hv _ rfl rfl; replace hq := Lib.hid hq; have hcmp := fgt_is (hr.out.trans HRK.out.symm) (hq.out.trans HRB.out.symm) (cn_rngAt _ _) (cn_rngAt _ _) HF.out); (refine wpRl_det' (by kernel_rfl) (fun K hK => ?_); go_simp; refine hK _ ?_; clear hK K); (refine wpRq_nil ?_); intro w' hb)
        go_wp2_with fail
        go_roundw
        case rel =>
          rw [HF.out] at hB
          exact ⟨k + 1, by omega, by go_num, by rw [hB.out]; rfl, below_step (Nat.le_refl _) (below_step (Nat.le_refl _) HB0.out HBW.out) hb⟩
        case measure => simp [intOf]; omega
    · obtain rfl : k = cs.length := by omega
      obtain ⟨f1, f2, f3⟩ := CycAt_of HC.out (bestAt cs cs.length) hbl
      have HRB := Lib.hid (rngAt_of hbl)
      have f1 := (HB0.out.cell (p := ⟨b1, o1 + bestAt cs cs.length * 3, none⟩) (block_lt_of_cell f1)).trans f1
      have f2 := (HB0.out.cell (p := ⟨b1, o1 + bestAt cs cs.length * 3 + 1, none⟩) (block_lt_of_cell f2)).trans f2
      have f3 := (HB0.out.cell (p := ⟨b1, o1 + bestAt cs cs.length * 3 + 2, none⟩) (block_lt_of_cell f3)).trans f3
      generalize cs[bestAt cs cs.length] = d at f1 f2 f3 HRB
      obtain ⟨lo', hi', wh'⟩ := d
      simp only at f1 f2 f3
      cases hf : fin .f32 (rngAt cs (bestAt cs cs.length))
      all_goals
        have HF := Lib.hid hf
        clear hf
        go_wp2_with (first | (go_at_call 60; refine (i_rangeOf ⟨lo', hi', wh'⟩ _).mono ?_; rintro e w' ⟨⟨r, rfl, hr⟩, hb⟩; replace hr := Lib.hid (hr.trans HRB.out.symm)) | (go_at_call 49; refine (i_checked _ _).mono ?_; rintro e w' ⟨rfl, n, rfl⟩; rw [fin_congr (hr.out.trans (cn_rngAt _ _).symm), HF.out]))
        have hB0 := HB0.out
        go_ret3
      · exact Num1I.inf HF.out (by repeat (first | exact Below.refl _ _ | assumption | refine below_drewN ?_ _ | refine below_alloc (Nat.le_refl _) ?_ _ | (refine Below.setCell ?_ (by first | exact Nat.le_refl _ | (simp; done) | (simp; omega) | omega) _) | (refine below_step (Nat.le_refl _) ?_ (by assumption))))
      · refine Num1I.ok HG.out HF.out ?_ (by repeat (first | exact Below.refl _ _ | assumption | refine below_drewN ?_ _ | refine below_alloc (Nat.le_refl _) ?_ _ | (refine Below.setCell ?_ (by first | exact Nat.le_refl _ | (simp; done) | (simp; omega) | omega) _) | (refine below_step (Nat.le_refl _) ?_ (by assumption))))
        rw [show num r = r by unfold num; rw [fin_congr (hr.out.trans (cn_rngAt _ _).symm), HF.out]; rfl]
        exact hr.out.trans (cn_rngAt _ _).symm
end Go.Proofs.Ytmpmnhnobgidoaa
