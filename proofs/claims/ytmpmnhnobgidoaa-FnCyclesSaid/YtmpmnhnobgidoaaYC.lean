/- Walks: the reference's cycles of loads. -/
import Derived.Test.YtmpmnhnobgidoaaYB
namespace Go.Proofs.Ytmpmnhnobgidoaa
set_option linter.unusedSimpArgs false
set_option linter.unusedVariables false
open Go.RowKit Go.Fl

theorem null_sub_num {x : Nat} (hx : isNan .f32 x = false) : isNan .f32 (fa .sub .f32 0 x) = false := by
  unfold isNan at hx
  change (Ieee.single.read x).isNaN = false at hx
  cases h1 : Ieee.single.read x <;> rw [h1] at hx
  · have h : ∃ d, (Ieee.single.read 0).sum (Ieee.single.read x).opposite = some d := by rw [h1, read_null]; exact ⟨_, rfl⟩
    obtain ⟨d, hd⟩ := h
    rw [fa_sub_is hd]
    exact write_notNaN _ (sum_notNaN hd)
  · have h : ∃ d, (Ieee.single.read 0).sum (Ieee.single.read x).opposite = some d := by rw [h1, read_null]; exact ⟨_, rfl⟩
    obtain ⟨d, hd⟩ := h
    rw [fa_sub_is hd]
    exact write_notNaN _ (sum_notNaN hd)
  · cases hx
theorem null_sub_is {x r : Nat} (hx : isNan .f32 x = false) (h : Hid (cn .f32 r = fa .sub .f32 (cn .f32 0) (cn .f32 x))) : r = fa .sub .f32 0 x := by
  refine exact_of ?_ (null_sub_num hx)
  rw [h.out, fa_cn_left, fa_cn_right]
theorem s_l07Size (x : Nat) (hx : isNan .f32 x = false) (w : World) : Calls Try.prog 88 #[.float .f32 x] w fun e w' => e = .returned (.float .f32 (szOf x)) ∧ ∃ n, w' = w.drewN n := by
  have HX := Lib.hid hx
  clear hx
  cases hf : fle .f32 x 0
  · have hf' : (FloatKind.f32.format.order x 0 == some .lt || FloatKind.f32.format.order x 0 == some .eq) = false := hf
    have e : Hid (szOf x = x) := by show _ = _; unfold szOf; rw [hf]; rfl
    clear hf
    go_enter Try.func88, Try.ntmps88
    go_wp2
    go_ret
    exact ⟨by rw [e.out]; rfl, 0, rfl⟩
  · have hf' : (FloatKind.f32.format.order x 0 == some .lt || FloatKind.f32.format.order x 0 == some .eq) = true := hf
    have e : Hid (szOf x = fa .sub .f32 0 x) := by show _ = _; unfold szOf; rw [hf]; rfl
    clear hf
    go_enter Try.func88, Try.ntmps88
    go_wp2_with (refine wpList_fa rfl rfl rfl rfl rfl (by first | assumption | exact hrfl _) (by first | assumption | exact hrfl _) ?_; intro r n hr)
    go_ret
    exact ⟨by rw [e.out, null_sub_is HX.out hr]; rfl, _, rfl⟩
theorem s_l07Cycle (a b : Nat) (wh : Bool) (w : World) : Calls Try.prog 89 #[.float .f32 a, .float .f32 b, .bool wh] w fun e w' => e = .returned (cyc (pair a b wh)) ∧ Below w.heap.size w w' := by
  cases hf : fgt .f32 a b
  · have hf' : (FloatKind.f32.format.order a b == some .gt) = false := hf
    have e : Hid (pair a b wh = ⟨a, b, wh⟩) := by show _ = _; unfold pair; rw [← fgt_swap, hf]; rfl
    clear hf
    go_enter Try.func89, Try.ntmps89
    go_wp2
    rw [e.out]
    exact bodyPost_ret (v := cyc _) (by simp [results, Try.results89, go_sem]) rfl ⟨rfl, (by repeat (first | exact Below.refl _ _ | assumption | refine below_drewN ?_ _ | refine below_alloc (Nat.le_refl _) ?_ _ | (refine Below.setCell ?_ (by first | exact Nat.le_refl _ | (simp; done) | (simp; omega) | omega) _) | (refine below_step (Nat.le_refl _) ?_ (by assumption))))⟩
  · have hf' : (FloatKind.f32.format.order a b == some .gt) = true := hf
    have e : Hid (pair a b wh = ⟨b, a, wh⟩) := by show _ = _; unfold pair; rw [← fgt_swap, hf]; rfl
    clear hf
    go_enter Try.func89, Try.ntmps89
    go_wp2
    rw [e.out]
    exact bodyPost_ret (v := cyc _) (by simp [results, Try.results89, go_sem]) rfl ⟨rfl, (by repeat (first | exact Below.refl _ _ | assumption | refine below_drewN ?_ _ | refine below_alloc (Nat.le_refl _) ?_ _ | (refine Below.setCell ?_ (by first | exact Nat.le_refl _ | (simp; done) | (simp; omega) | omega) _) | (refine below_step (Nat.le_refl _) ?_ (by assumption))))⟩
/-- What an absolute value answers. -/
def sizeV (args : Array Value) : Value := match args with | #[.float .f32 x] => .float .f32 (szOf x) | _ => undef
def lenV : Value → Nat
  | .slice _ n _ => n
  | _ => 0
set_option maxRecDepth 100000 in
set_option maxHeartbeats 4000000 in
theorem s_l07Cycles (v : Value) (xs : List Nat) (w : World) (hx : RF w v xs) (hf : finAll xs = true) (hl : xs.length ≤ 64) :
    Calls Try.prog 56 #[v] w fun e w' => ∃ u, e = .returned u ∧ OC w.heap.size w' u (cycles xs) ∧ Below w.heap.size w w' := by
  have hel : (ends xs).length ≤ 64 := by have := ends_le xs; omega
  have HEF := Lib.hid (ends_fin hf)
  have HINV := Lib.hid (cycTo_inv (ends xs) (ends_fin hf))
  have HSUC := Lib.hid (cycTo_succ (ends xs))
  have HX := Lib.hid hx
  have HCY : Hid (cycles xs = (cycTo (ends xs) (ends xs).length).2 ++ tails (cycTo (ends xs) (ends xs).length).1 ((cycTo (ends xs) (ends xs).length).1.length - 1)) := rfl
  clear hf hx
  go_enter Try.func56, Try.ntmps56
  go_wp2_with fail
  refine (s_l07Ends v xs _ (HX.out.alloc _) (by omega)).mono ?_
  rintro e w1 ⟨ue, rfl, OE1, hb⟩
  have HB1 : Hid (Below w.heap.size w w1) := (by repeat (first | exact Below.refl _ _ | assumption | refine below_drewN ?_ _ | refine below_alloc (Nat.le_refl _) ?_ _ | (refine Below.setCell ?_ (by first | exact Nat.le_refl _ | (simp; done) | (simp; omega) | omega) _) | (refine below_step (Nat.le_refl _) ?_ (by assumption))))
  have HO1 : Hid (OC w.heap.size w1 (.slice (some ⟨w.heap.size, 0, none⟩) 0 0) []) := OC_below (by show World.ownsRow _ _ _ _ _ _ _; exact World.ownsRow_lit w #[] 0 (Nat.le_refl _) (by unfold maxLen; omega) rfl) hb
  have HE1 : Hid (OF w.heap.size w1 ue (ends xs) ∧ (∀ k, ue.ownBlock = some k → k < w1.heap.size)) := by
    refine ⟨⟨OE1.1, ?_⟩, fun k hk => (OE1.lt k hk).2⟩
    rcases OE1.2 with h | ⟨g, cap, cur, q1, q2, q3⟩
    · exact .inl h
    · exact .inr ⟨g, cap, cur, q1, by simp at q2; omega, q3⟩
  obtain ⟨p1, cap1, rfl, hm1, hc1⟩ := RF_of_own OE1 (by omega)
  generalize hB0 : w.heap.size = B at *
  have HB0 := Lib.hid hB0
  clear OE1 hb hc1 HX hB0
  generalize hes : ends xs = es at *
  have HES := Lib.hid hes
  clear hes
  have HS0 : Hid (CW B w (.slice p1 es.length cap1) es (w1.alloc (.cells #[] 26)) (.slice (some ⟨w1.heap.size, 0, none⟩) 0 0) (.slice (some ⟨B, 0, none⟩) 0 0) ([], [])) := by
    have hT0 : B ≤ w1.heap.size := by rw [← HB0.out]; exact HB1.out.size
    have hal : Below w1.heap.size w1 (w1.alloc (.cells #[] 26)) := below_alloc (Nat.le_refl _) (Below.refl _ _) _
    refine ⟨OF_below HE1.out.1 hal, fun k hk hk2 => ?_, OO_of (OF_empty _ _ _ rfl hT0 _ rfl), OC_below HO1.out hal, HB1.out.trans (hal.mono hT0), Nat.le_trans hT0 hal.size⟩
    have := HE1.out.2 k hk
    simp only [Value.ownBlock, Option.some.injEq] at hk2
    omega
  clear HE1 HO1 HB1
  go_wp2_with fail
  generalize w1.heap.size = T at *
  go_loopw [3, 5, 18] (fun o l i wr => ∃ k : Nat, k ≤ es.length ∧ i = .int .i64 k ∧ CW B w (.slice p1 es.length cap1) es wr l o (cycTo es k)) (fun _ _ i _ => es.length - (intOf i).toNat)
  case atStart => exact ⟨0, Nat.zero_le _, rfl, HS0.out⟩
  case round =>
    obtain ⟨k, hk, rfl, hS⟩ := hrel
    by_cases hlt : k < es.length
    · obtain ⟨b1, rfl⟩ : ∃ b1, p1 = some ⟨b1, 0, none⟩ := by
        rcases hS.he.2 with ⟨h, h2⟩ | ⟨g, cap, cur, h, -⟩
        · omega
        · simp only [Value.slice.injEq] at h; exact ⟨g, h.1⟩
      have g1 : wr.cell? ⟨b1, k, none⟩ = some (.float .f32 es[k]) := by rw [OF_cell hS.he k hlt]; simp [hlt]
      have HI0 := Lib.hid (HINV.out k hk)
      have HSK := Lib.hid (HSUC.out k hlt)
      have hI := HI0.out.total
      have HXF : Hid (fin .f32 es[k] = true) := by
        have h := HEF.out
        unfold finAll at h
        exact List.all_eq_true.1 h _ (List.getElem_mem _)
      generalize es[k] = x at g1 HSK HXF
      generalize cycTo es k = s at hS HI0 HSK hI
      have HS := Lib.hid hS
      clear hS
      go_wp2_with (at_builtin; refine wpList_appO B s.1 x rfl rfl rfl rfl ?_ ?_ (by omega) ?_ ?_)
      case _ => exact (HS.out.below (by repeat (first | exact Below.refl _ _ | assumption | refine below_drewN ?_ _ | refine below_alloc (Nat.le_refl _) ?_ _ | (refine Below.setCell ?_ (by first | exact Nat.le_refl _ | (simp; done) | (simp; omega) | omega) _) | (refine below_step (Nat.le_refl _) ?_ (by assumption))))).hl
      case _ => exact cell_top1 _ _ (by simp) _ _
      case _ => have := HS.out.hs; simp; omega
      intro u w2 h1 h2 h2a
      have HP : Hid (CW B w (.slice (some ⟨b1, 0, none⟩) es.length cap1) es w2 u u3 (push s x)) := CW.pushed (HS.out.below (by repeat (first | exact Below.refl _ _ | assumption | refine below_drewN ?_ _ | refine below_alloc (Nat.le_refl _) ?_ _ | (refine Below.setCell ?_ (by first | exact Nat.le_refl _ | (simp; done) | (simp; omega) | omega) _) | (refine below_step (Nat.le_refl _) ?_ (by assumption))))) h1 h2 (by simpa using h2a)
      have HPI := Lib.hid (push_inv HI0.out HXF.out)
      clear h1 h2 h2a g1
      go_wp2_with fail
      generalize push s x = s0 at *
      clear hI HI0 HS
      go_loopw [3, 5] (fun o l wr => ∃ j : Nat, (iter j s0).1.length + j ≤ s0.1.length ∧ CW B w (.slice (some ⟨b1, 0, none⟩) es.length cap1) es wr l o (iter j s0)) (fun _ l _ => lenV l)
      case atStart => exact ⟨0, by show s0.1.length + 0 ≤ _; omega, HP.out⟩
      case round =>
        obtain ⟨j, hj, hC⟩ := hrel
        have HCI := Lib.hid (iter_inv HPI.out j)
        have HNO : Hid (due (iter j s0) = false → cycTo es (k + 1) = iter j s0) := fun h => HSK.out.trans (red_is h hj)
        have HYES : Hid (due (iter j s0) = true → iter (j + 1) s0 = (left (iter j s0).1, (iter j s0).2 ++ [found (iter j s0).1]) ∧ (iter (j + 1) s0).1.length + (j + 1) ≤ s0.1.length) := fun h => ⟨iter_due h, iter_len h hj⟩
        have HC := Lib.hid hC
        clear hj hC
        generalize iter j s0 = s at HC HCI HNO HYES
        obtain ⟨L, O⟩ := s
        have hI : L.length + O.length ≤ k + 1 := HCI.out.total
        have HLF : Hid (∀ x ∈ L, fin .f32 x = true) := HCI.out.finite
        by_cases hn : 3 ≤ L.length
        · obtain ⟨g, off, cap, rfl, hox⟩ : ∃ g off cap, u5 = .slice (some ⟨g, off, none⟩) L.length cap ∧ OX B wr g off cap L := by
            rcases HC.out.hl with ⟨-, h⟩ | h
            · have h' : L = [] := h
              rw [h'] at hn; simp at hn
            · exact h
          obtain ⟨i3, hi3⟩ : ∃ i3, L.length = i3 + 3 := ⟨L.length - 3, by omega⟩
          obtain ⟨i2, hi2⟩ : ∃ i2, i2 = i3 + 1 := ⟨_, rfl⟩
          obtain ⟨i1, hi1⟩ : ∃ i1, i1 = i3 + 2 := ⟨_, rfl⟩
          have gl1 : wr.cell? ⟨g, off + i1, none⟩ = some (.float .f32 (at3 L 1)) := by rw [OX_cell hox (by omega)]; unfold at3; rw [show i1 = L.length - 1 by omega]
          have gl2 : wr.cell? ⟨g, off + i2, none⟩ = some (.float .f32 (at3 L 2)) := by rw [OX_cell hox (by omega)]; unfold at3; rw [show i2 = L.length - 2 by omega]
          have gl3 : wr.cell? ⟨g, off + i3, none⟩ = some (.float .f32 (at3 L 3)) := by rw [OX_cell hox (by omega)]; unfold at3; rw [show i3 = L.length - 3 by omega]
          have HOX := Lib.hid hox
          have HF1 := Lib.hid (at3_fin HLF.out (i := 1) (by omega) (by omega))
          have HF2 := Lib.hid (at3_fin HLF.out (i := 2) (by omega) (by omega))
          have HF3 := Lib.hid (at3_fin HLF.out (i := 3) (by omega) (by omega))
          clear hox
          generalize hnn : L.length = n at *
          have HNN := Lib.hid hnn
          have q1 : IntKind.i64.wrap ((n : Int) - 1) = (i1 : Int) := by rw [IntKind.wrap_i64]; omega
          have q2 : IntKind.i64.wrap ((n : Int) - 2) = (i2 : Int) := by rw [IntKind.wrap_i64]; omega
          have q3 : IntKind.i64.wrap ((n : Int) - 3) = (i3 : Int) := by rw [IntKind.wrap_i64]; omega
          have q4 : (0 : Int) ≤ (i1 : Int) := by omega
          have q5 : (0 : Int) ≤ (i2 : Int) := by omega
          have q6 : (0 : Int) ≤ (i3 : Int) := by omega
          have q7 : (i1 : Int) < (n : Int) := by omega
          have q8 : (i2 : Int) < (n : Int) := by omega
          have q9 : (i3 : Int) < (n : Int) := by omega
          have HI := Lib.hid (And.intro hi3 (And.intro hi2 (And.intro hi1 hn)))
          clear hnn hi3 hi2 hi1
          go_wp2_with fail
          ((refine wp_region_rq_lit (fun _ args u => u = sizeV args) (by kernel_rfl) (by kernel_rfl) ?_); (iterate 10 (refine wpRq_det' (by kernel_rfl) (fun K hK => ?_); go_simp; refine hK _ ?_; clear hK K)); (refine wpRq_fa rfl rfl (by kernel_rfl) rfl rfl (by first | assumption | exact hrfl _) (by first | assumption | exact hrfl _) ?_; intro r hr); have hr2 := sub_is HF1.out HF2.out hr; subst hr2; (refine wpRq_call1 (f := 88) (X := .float .f32 _) rfl ?_ rfl (run_enter Try.func88 (by kernel_rfl) rfl) (fun n => (s_l07Size _ (sub_num HF1.out HF2.out) _).mono (fun e w' ⟨he, hn⟩ => ⟨_, he, rfl, hn⟩)) ?_; (focus kernel_rfl); intro v hv; replace hv : v = .float .f32 (szOf _) := hv; subst hv); (refine wpRq_det' (by kernel_rfl) (fun K hK => ?_); go_simp; refine hK _ ?_; clear hK K); (refine wpRq_nil ?_); intro nq)
          clear hr
          go_wp2_with fail
          ((refine wp_region_rq_lit (fun _ args u => u = sizeV args) (by kernel_rfl) (by kernel_rfl) ?_); (iterate 10 (refine wpRq_det' (by kernel_rfl) (fun K hK => ?_); go_simp; refine hK _ ?_; clear hK K)); (refine wpRq_fa rfl rfl (by kernel_rfl) rfl rfl (by first | assumption | exact hrfl _) (by first | assumption | exact hrfl _) ?_; intro r hr); have hr2 := sub_is HF2.out HF3.out hr; subst hr2; (refine wpRq_call1 (f := 88) (X := .float .f32 _) rfl ?_ rfl (run_enter Try.func88 (by kernel_rfl) rfl) (fun n => (s_l07Size _ (sub_num HF2.out HF3.out) _).mono (fun e w' ⟨he, hn⟩ => ⟨_, he, rfl, hn⟩)) ?_; (focus kernel_rfl); intro v hv; replace hv : v = .float .f32 (szOf _) := hv; subst hv); (refine wpRq_det' (by kernel_rfl) (fun K hK => ?_); go_simp; refine hK _ ?_; clear hK K); (refine wpRq_nil ?_); intro nq)
          clear hr
          have HDU : Hid (due (L, O) = fge .f32 (szOf (fa .sub .f32 (at3 L 1) (at3 L 2))) (szOf (fa .sub .f32 (at3 L 2) (at3 L 3)))) := by
            show _ = _
            rw [size_cmp HF3.out HF2.out HF1.out true (decide (3 < L.length))]
            unfold due
            have : decide (3 ≤ L.length) = true := by have := HNN.out; simp; omega
            show (decide (3 ≤ L.length) && _) = _
            rw [this, Bool.true_and]
          generalize szOf (fa .sub .f32 (at3 L 1) (at3 L 2)) = z1 at *
          generalize szOf (fa .sub .f32 (at3 L 2) (at3 L 3)) = z2 at *
          cases hd : fge .f32 z1 z2
          · have hd' : (FloatKind.f32.format.order z1 z2 == some .gt || FloatKind.f32.format.order z1 z2 == some .eq) = false := hd
            rw [hd] at HDU
            clear hd
            go_wp2_with fail
            refine ⟨⟨k + 1, by omega, by go_num, ?_⟩, by simp [intOf]; omega⟩
            rw [HNO.out HDU.out]
            exact HC.out.below (by repeat (first | exact Below.refl _ _ | assumption | refine below_drewN ?_ _ | refine below_alloc (Nat.le_refl _) ?_ _ | (refine Below.setCell ?_ (by first | exact Nat.le_refl _ | (simp; done) | (simp; omega) | omega) _) | (refine below_step (Nat.le_refl _) ?_ (by assumption))))
          · have hd' : (FloatKind.f32.format.order z1 z2 == some .gt || FloatKind.f32.format.order z1 z2 == some .eq) = true := hd
            rw [hd] at HDU
            clear hd
            have HNX := Lib.hid (HYES.out HDU.out)
            go_wp2_with fail
            refine wp_world fun wr1 HW1 => ?_
            have hb1 : Below wr.heap.size wr wr1 := by rw [HW1.out]; exact (by repeat (first | exact Below.refl _ _ | assumption | refine below_drewN ?_ _ | refine below_alloc (Nat.le_refl _) ?_ _ | (refine Below.setCell ?_ (by first | exact Nat.le_refl _ | (simp; done) | (simp; omega) | omega) _) | (refine below_step (Nat.le_refl _) ?_ (by assumption))))
            have HS1 := Lib.hid (HC.out.below hb1)
            have gl1 := cell_below_keep' gl1 hb1
            have gl2 := cell_below_keep' gl2 hb1
            have gl3 := cell_below_keep' gl3 hb1
            have HNE := Lib.hid HS1.out.apart
            clear hb1 hd'
            have HTB : Hid (B ≤ wr1.heap.size) := HS1.out.hs
            have HFD : Hid (pair (at3 L 3) (at3 L 2) (decide ((3 : Int) < (n : Int))) = found L) := by
              show _ = _
              unfold found
              have := HNN.out
              rw [this]
              have e : decide ((3 : Int) < (n : Int)) = decide (3 < n) := by rw [decide_eq_decide]; omega
              rw [e]
            clear HC HNO HYES HCI
            go_region_held3 (fun w' => w'.cell? ⟨g, off + i2, none⟩ = some (.float .f32 (at3 L 2)) ∧ w'.cell? ⟨g, off + i3, none⟩ = some (.float .f32 (at3 L 3)))
              (first
                | (show _ ∧ _; exact ⟨gl2, gl3⟩)
                | (show _ ∧ _; go_split_ands; refine ⟨cell_alloc_keep' (by assumption) _, cell_alloc_keep' (by assumption) _⟩)
                | (show _ ∧ _; go_split_ands; refine ⟨cell_below_keep' (by assumption) (by assumption), cell_below_keep' (by assumption) (by assumption)⟩)
                | (show _ ∧ _; go_split_ands; refine ⟨cell_far_keep (by assumption) (by assumption) HNE.out, cell_far_keep (by assumption) (by assumption) HNE.out⟩))
              (first
                | ((go_at_call 89; refine (s_l07Cycle _ _ _ _).mono ?_; rintro e w3 ⟨rfl, hb3⟩))
                | ((refine step_appC B O (found L) _ _ u3 w3.heap.size (by rfl) (by rfl) (by rfl) (by rfl) (OC_below HS1.out.ho (by repeat (first | exact Below.refl _ _ | assumption | refine below_drewN ?_ _ | refine below_alloc (Nat.le_refl _) ?_ _ | (refine Below.setCell ?_ (by first | exact Nat.le_refl _ | (simp; done) | (simp; omega) | omega) _) | (refine below_step (Nat.le_refl _) ?_ (by assumption))))) (by rw [← HFD.out]; exact cyc_top _ _ rfl _ _ _ _) (by omega) (by have := hb3.size; have := HTB.out; simp at *; omega) ?_; intro u4 w4 H1 H2)))
            have HS2 : Hid (CW B w (.slice (some ⟨b1, 0, none⟩) es.length cap1) es w4 (.slice (some ⟨g, off, none⟩) n cap) u4 (L, O ++ [found L])) := CW.outed (HS1.out.below (by repeat (first | exact Below.refl _ _ | assumption | refine below_drewN ?_ _ | refine below_alloc (Nat.le_refl _) ?_ _ | (refine Below.setCell ?_ (by first | exact Nat.le_refl _ | (simp; done) | (simp; omega) | omega) _) | (refine below_step (Nat.le_refl _) ?_ (by assumption))))) H1 H2
            have gl1 : w4.cell? ⟨g, off + i1, none⟩ = some (.float .f32 (at3 L 1)) := cell_far_keep (cell_alloc_keep' (cell_below_keep' (w := wr1.drew) gl1 hb3) _) H2 HNE.out
            clear H1 H2 hb3 gl2 gl3 HNE HS1 HW1 HFD
            have HOX2 := Lib.hid HS2.out.ox.2
            have qc : (n : Int) ≤ (cap : Int) := by
              obtain ⟨cur, -, -, q, -⟩ := HOX2.out
              have := HNN.out
              have : L.length ≤ cap := q
              omega
            have HI3 : Hid (n = i3 + 3) := HI.out.1
            have HTS := Lib.hid HS2.out.hs
            have HEL := Lib.hid (fun k hk => (HS2.out.he.lt k hk).2)
            by_cases h3 : n = 3
            · have qe : ((n : Int) == 3) = true := by simp; omega
              have q10 : (1 : Int) ≤ (n : Int) := by omega
              have HLT : Hid (left L = L.tail) := by show _ = _; unfold left; rw [if_pos (by rw [HNN.out, h3])]
              have HD1 : Hid (L.tail ≠ []) := fun e => by have h : L.tail.length = 0 := (by rw [e]; rfl); have := HNN.out; rw [List.length_tail] at h; omega
              have HD2 : Hid (L.tail.length ≤ 1048577) := by show _ ≤ _; have := HNN.out; simp; omega
              have HD3 : Hid (1 ≤ L.length) := by show _ ≤ _; have := HNN.out; omega
              have HD4 : Hid (2 = L.tail.length) := by show _ = _; have := HNN.out; simp; omega
              go_wp2_with (at_builtin; refine wpList_copyN w4.heap.size L.tail rfl rfl rfl rfl ?_ ?_ ?_ HD1.out HD2.out ?_ ?_)
              case _ => exact OF_empty _ _ _ rfl (Nat.le_refl _) _ rfl
              case _ => exact OX_RF (OX_below (OX_drop HOX2.out HD3.out) (below_alloc (Nat.le_refl _) (Below.refl _ _) _)) HD4.out (by have := HD2.out; omega)
              intro u5 w5 h1 h2 h3
              have HS3 : Hid (CW B w (.slice (some ⟨b1, 0, none⟩) es.length cap1) es w5 u5 u4 (left L, O ++ [found L])) := by
                show CW _ _ _ _ _ _ _ _
                rw [HLT.out]
                exact CW.relist (HS2.out.below (show Below w4.heap.size w4 w5 from (below_alloc (Nat.le_refl _) (Below.refl _ _) _).trans h3)) (OO_base (OO_of h1) HTS.out) (fun k hk hk2 => by have := HEL.out k hk; have := (h1.lt k hk2).1; omega)
              clear h1 h2 h3
              go_wp2_with fail
              go_roundw
              case rel => exact ⟨j + 1, HNX.out.2, by rw [HNX.out.1]; exact HS3.out⟩
              case measure =>
                rcases HS3.out.hl with ⟨e, -⟩ | ⟨g2, off2, c2, e, -⟩
                · rw [e]; show 0 < n; omega
                · rw [e]
                  show (left L).length < n
                  have := left_length (l := L) (by have := HNN.out; omega)
                  have := HNN.out
                  omega
            · have qe : ((n : Int) == 3) = false := by simp; omega
              have q10 : (i3 : Int) ≤ (cap : Int) := by have := HI3.out; omega
              have HLT : Hid (left L = L.take i3 ++ [at3 L 1]) := by show _ = _; unfold left; rw [if_neg (by rw [HNN.out]; exact h3), HNN.out, show n - 3 = i3 by have := HI3.out; omega]
              have HD1 : Hid (L.take i3 ≠ []) := fun e => by have h : (L.take i3).length = 0 := (by rw [e]; rfl); have := HNN.out; have := HI3.out; rw [List.length_take] at h; omega
              have HD4 : Hid (i3 = (L.take i3).length) := by show _ = _; have := HNN.out; have := HI3.out; simp; omega
              have HD2 : Hid ((L.take i3).length ≤ 1048576) := by show _ ≤ _; have := HNN.out; have := HI3.out; have := HD4.out; omega
              go_wp2_with (at_builtin; refine wpList_copyN w4.heap.size (L.take i3) rfl rfl rfl rfl ?_ ?_ ?_ HD1.out (Nat.le_succ_of_le HD2.out) ?_ ?_)
              case _ => exact OF_empty _ _ _ rfl (Nat.le_refl _) _ rfl
              case _ => exact OX_RF (OX_below (OX_take HOX2.out i3) (below_alloc (Nat.le_refl _) (Below.refl _ _) _)) HD4.out (by have := HD2.out; omega)
              intro u5 w5 h1 h2 h3
              have HS3 : Hid (CW B w (.slice (some ⟨b1, 0, none⟩) es.length cap1) es w5 u5 u4 (L.take i3, O ++ [found L])) :=
                CW.relist (HS2.out.below (show Below w4.heap.size w4 w5 from (below_alloc (Nat.le_refl _) (Below.refl _ _) _).trans h3)) (OO_base (OO_of h1) HTS.out) (fun k hk hk2 => by have := HEL.out k hk; have := (h1.lt k hk2).1; omega)
              clear h1 h2 h3 gl1
              go_wp2_with (at_builtin; refine wpList_appO B (L.take i3) (at3 L 1) rfl rfl rfl rfl ?_ ?_ HD2.out ?_ ?_)
              case _ => exact (HS3.out.below (by repeat (first | exact Below.refl _ _ | assumption | refine below_drewN ?_ _ | refine below_alloc (Nat.le_refl _) ?_ _ | (refine Below.setCell ?_ (by first | exact Nat.le_refl _ | (simp; done) | (simp; omega) | omega) _) | (refine below_step (Nat.le_refl _) ?_ (by assumption))))).hl
              case _ => exact cell_top1 _ _ (by simp) _ _
              case _ => have := HS3.out.hs; simp; omega
              intro u6 w6 h1 h2 h2a
              have HS4 : Hid (CW B w (.slice (some ⟨b1, 0, none⟩) es.length cap1) es w6 u6 u4 (left L, O ++ [found L])) := by
                show CW _ _ _ _ _ _ _ _
                rw [HLT.out]
                exact CW.pushed (HS3.out.below (by repeat (first | exact Below.refl _ _ | assumption | refine below_drewN ?_ _ | refine below_alloc (Nat.le_refl _) ?_ _ | (refine Below.setCell ?_ (by first | exact Nat.le_refl _ | (simp; done) | (simp; omega) | omega) _) | (refine below_step (Nat.le_refl _) ?_ (by assumption))))) h1 h2 (by simpa using h2a)
              clear h1 h2 h2a
              go_wp2_with fail
              go_roundw
              case rel => exact ⟨j + 1, HNX.out.2, by rw [HNX.out.1]; exact HS4.out⟩
              case measure =>
                rcases HS4.out.hl with ⟨e, -⟩ | ⟨g2, off2, c2, e, -⟩
                · rw [e]; show 0 < n; omega
                · rw [e]
                  show (left L).length < n
                  have := left_length (l := L) (by have := HNN.out; omega)
                  have := HNN.out
                  omega
        · have HDN : Hid (due (L, O) = false) := by show _ = _; unfold due; simp; omega
          have HNX := Lib.hid (HNO.out HDN.out)
          rcases HC.out.hl with ⟨e, e2⟩ | ⟨g, off, cap, e, hox⟩
          · subst e
            go_wp2_with fail
            refine ⟨⟨k + 1, by omega, by go_num, ?_⟩, by simp [intOf]; omega⟩
            rw [HNX.out]
            exact HC.out.below (by repeat (first | exact Below.refl _ _ | assumption | refine below_drewN ?_ _ | refine below_alloc (Nat.le_refl _) ?_ _ | (refine Below.setCell ?_ (by first | exact Nat.le_refl _ | (simp; done) | (simp; omega) | omega) _) | (refine below_step (Nat.le_refl _) ?_ (by assumption))))
          · have e' : u5 = .slice (some ⟨g, off, none⟩) L.length cap := e
            subst e'
            clear hox e
            go_wp2_with fail
            refine ⟨⟨k + 1, by omega, by go_num, ?_⟩, by simp [intOf]; omega⟩
            rw [HNX.out]
            exact HC.out.below (by repeat (first | exact Below.refl _ _ | assumption | refine below_drewN ?_ _ | refine below_alloc (Nat.le_refl _) ?_ _ | (refine Below.setCell ?_ (by first | exact Nat.le_refl _ | (simp; done) | (simp; omega) | omega) _) | (refine below_step (Nat.le_refl _) ?_ (by assumption))))
    · obtain rfl : k = es.length := by omega
      have HIN := Lib.hid (HINV.out es.length (Nat.le_refl _))
      have HS := Lib.hid hS
      clear hS
      have HSE : Hid (cycTo es es.length = cycTo es es.length) := rfl
      obtain ⟨s, hs⟩ : ∃ s, cycTo es es.length = s := ⟨_, rfl⟩
      obtain ⟨L, O⟩ := s
      rw [hs] at HS HIN
      replace HSE := Lib.hid hs
      clear hs
      have HIL : Hid (L.length + O.length ≤ es.length) := HIN.out.total
      have HOL := HS.out.ho
      go_wp2_with fail
      go_loopw [3, 11] (fun o iv wr' => ∃ i : Nat, 1 ≤ i ∧ i ≤ L.length - 1 + 1 ∧ iv = .int .i64 (i : Int) ∧ CW B w (.slice p1 es.length cap1) es wr' u5 o (L, O ++ tails L (i - 1))) (fun _ i _ => L.length - (intOf i).toNat)
      case atStart => exact ⟨1, Nat.le_refl _, by omega, rfl, by rw [tails_zero, List.append_nil]; exact HS.out⟩
      case round =>
        obtain ⟨i, hi1, hi2, rfl, hC⟩ := hrel
        have HC := Lib.hid hC
        clear hC
        by_cases hlt : i < L.length
        · obtain ⟨g, off, cap, rfl, hox⟩ : ∃ g off cap, u5 = .slice (some ⟨g, off, none⟩) L.length cap ∧ OX B wr g off cap L := by
            rcases HC.out.hl with ⟨-, h⟩ | h
            · have h' : L = [] := h
              rw [h'] at hlt; simp at hlt
            · exact h
          obtain ⟨k, hk0⟩ : ∃ k, i = k + 1 := ⟨i - 1, by omega⟩
          have HK := Lib.hid hk0
          have hll : L.length ≤ 64 := by have := HIL.out; omega
          have gl1 : wr.cell? ⟨g, off + k, none⟩ = some (.float .f32 (L.getD k 0)) := OX_cell hox (by omega)
          have gl2 : wr.cell? ⟨g, off + i, none⟩ = some (.float .f32 (L.getD i 0)) := OX_cell hox hlt
          have q1 : IntKind.i64.wrap ((i : Int) - 1) = (k : Int) := by rw [IntKind.wrap_i64]; omega
          have q2 : (0 : Int) ≤ (i : Int) := by omega
          have q3 : (0 : Int) ≤ (k : Int) := by omega
          have q4 : (i : Int) < (L.length : Int) := by omega
          have q5 : (k : Int) < (L.length : Int) := by omega
          have HTL : Hid (tails L (i - 1) ++ [pair (L.getD k 0) (L.getD i 0) false] = tails L (i + 1 - 1)) := by
            show _ = _
            rw [hk0, show k + 1 + 1 - 1 = k + 1 by omega, tails_succ, show k + 1 - 1 = k by omega]
          have HOLN : Hid ((O ++ tails L (i - 1)).length ≤ 1048576) := by show _ ≤ _; rw [List.length_append, tails_length]; have := HIL.out; omega
          have HNE := Lib.hid HC.out.apart
          have HTB : Hid (B ≤ wr.heap.size) := HC.out.hs
          clear hox hk0
          generalize L.getD k 0 = a at *
          generalize L.getD i 0 = b at *
          go_wp2_with fail
          go_region_held3 (fun w' => w'.cell? ⟨g, off + k, none⟩ = some (.float .f32 a) ∧ w'.cell? ⟨g, off + i, none⟩ = some (.float .f32 b))
            (first
              | (show _ ∧ _; exact ⟨gl1, gl2⟩)
              | (show _ ∧ _; go_split_ands; refine ⟨cell_alloc_keep' (by assumption) _, cell_alloc_keep' (by assumption) _⟩)
              | (show _ ∧ _; go_split_ands; refine ⟨cell_below_keep' (by assumption) (by assumption), cell_below_keep' (by assumption) (by assumption)⟩)
              | (show _ ∧ _; go_split_ands; refine ⟨cell_far_keep (by assumption) (by assumption) HNE.out, cell_far_keep (by assumption) (by assumption) HNE.out⟩))
            (first
              | ((go_at_call 89; refine (s_l07Cycle _ _ _ _).mono ?_; rintro e w3 ⟨rfl, hb3⟩))
              | ((refine step_appC B (O ++ tails L (i - 1)) (pair a b false) _ _ u3 w3.heap.size (by rfl) (by rfl) (by rfl) (by rfl) (OC_below HC.out.ho (by repeat (first | exact Below.refl _ _ | assumption | refine below_drewN ?_ _ | refine below_alloc (Nat.le_refl _) ?_ _ | (refine Below.setCell ?_ (by first | exact Nat.le_refl _ | (simp; done) | (simp; omega) | omega) _) | (refine below_step (Nat.le_refl _) ?_ (by assumption))))) (cyc_top _ _ rfl _ _ _ _) HOLN.out (by have := hb3.size; have := HTB.out; simp at *; omega) ?_; intro u4 w4 H1 H2)))
          have HS2 : Hid (CW B w (.slice p1 es.length cap1) es w4 (.slice (some ⟨g, off, none⟩) L.length cap) u4 (L, O ++ tails L (i + 1 - 1))) := by
            have h := CW.outed (HC.out.below (by repeat (first | exact Below.refl _ _ | assumption | refine below_drewN ?_ _ | refine below_alloc (Nat.le_refl _) ?_ _ | (refine Below.setCell ?_ (by first | exact Nat.le_refl _ | (simp; done) | (simp; omega) | omega) _) | (refine below_step (Nat.le_refl _) ?_ (by assumption))))) H1 H2
            rw [List.append_assoc, HTL.out] at h
            exact h
          clear H1 H2 hb3 gl1 gl2
          go_wp2_with fail
          go_roundw
          case rel => exact ⟨i + 1, by omega, by omega, by go_num, HS2.out⟩
          case measure => simp [intOf]; omega
        · have HTL : Hid (O ++ tails L (i - 1) = cycles xs) := by
            show _ = _
            rw [HCY.out]
            have h1 := HSE.out
            rw [h1]
            congr 2
            show i - 1 = L.length - 1
            omega
          have HO : Hid (OC B wr u3 (cycles xs)) := by rw [← HTL.out]; exact HC.out.ho
          have hln : ∃ p c, u5 = .slice p L.length c := by
            rcases HC.out.hl with ⟨h, h2⟩ | ⟨g, off, c, h, -⟩
            · have h2' : L = [] := h2
              subst h2'
              exact ⟨none, 0, h⟩
            · exact ⟨_, _, h⟩
          obtain ⟨p5, c5, rfl⟩ := hln
          go_wp2_with fail
          go_ret
          exact ⟨_, rfl, by rw [HB0.out]; exact HO.out, by rw [HB0.out]; exact HC.out.hb⟩
end Go.Proofs.Ytmpmnhnobgidoaa
