/- Walks: the ends of loads. -/
import Derived.Test.YtmpmnhnobgidoaaG
namespace Go.Proofs.Ytmpmnhnobgidoaa
set_option linter.unusedSimpArgs false
set_option linter.unusedVariables false
open Go.RowKit Go.Fl

theorem feq_comm (k : FloatKind) (x y : Nat) : feq k x y = feq k y x := by
  unfold feq Ieee.Format.order
  cases h1 : k.format.read x <;> cases h2 : k.format.read y <;> simp only [Ieee.Datum.order]
  · rename_i s m i t n j
    rw [show min j i = min i j from Int.min_comm ..]
    generalize Ieee.signed s m (i - min i j).toNat = a
    generalize Ieee.signed t n (j - min i j).toNat = b
    have H : ∀ c d : Int, (compare c d = .eq) ↔ c = d := by
      intro c d
      simp only [compare, compareOfLessAndEq]
      split
      · simp; omega
      · split <;> simp_all
    rw [Bool.eq_iff_iff]
    simp only [beq_iff_eq, Option.some.injEq, H]
    exact ⟨Eq.symm, Eq.symm⟩
  · rename_i s; cases s <;> rfl
  · rename_i s _ _ _; cases s <;> rfl
  · rename_i s t; cases s <;> cases t <;> rfl
def lastOf (zs : List Nat) : Nat := zs.getD (zs.length - 1) 0
def prevOf (zs : List Nat) : Nat := zs.getD (zs.length - 2) 0
/-- It goes on as it went. -/
def onward (zs : List Nat) (x : Nat) : Bool := fgt .f32 (lastOf zs) (prevOf zs) && flt .f32 (lastOf zs) x || flt .f32 (lastOf zs) (prevOf zs) && fgt .f32 (lastOf zs) x
def endStep (zs : List Nat) (x : Nat) : List Nat :=
  if zs.length = 0 then zs ++ [x]
  else if feq .f32 x (lastOf zs) then zs
  else if zs.length = 1 then zs ++ [x]
  else if onward zs x then zs.set (zs.length - 1) x else zs ++ [x]
theorem endStep_length (zs : List Nat) (x : Nat) : (endStep zs x).length ≤ zs.length + 1 := by
  unfold endStep
  split
  · simp
  · split
    · omega
    · split
      · simp
      · split <;> simp
def ends (xs : List Nat) : List Nat := xs.foldl endStep []
theorem ends_take (xs : List Nat) (k : Nat) (hk : k < xs.length) : ends (xs.take (k + 1)) = endStep (ends (xs.take k)) xs[k] := by
  unfold ends
  rw [List.take_succ_eq_append_getElem hk, List.foldl_append]
  rfl
theorem ends_length (xs : List Nat) : ∀ zs : List Nat, (xs.foldl endStep zs).length ≤ zs.length + xs.length := by
  induction xs with
  | nil => intro zs; simp
  | cons x xs ih =>
    intro zs
    have h1 := ih (endStep zs x)
    have h2 := endStep_length zs x
    simp only [List.foldl_cons, List.length_cons]
    omega
theorem ends_le (xs : List Nat) : (ends xs).length ≤ xs.length := by have := ends_length xs []; simpa [ends] using this
theorem OF_cell {B : Nat} {w : World} {g cap : Nat} {zs : List Nat} (h : OF B w (.slice (some ⟨g, 0, none⟩) zs.length cap) zs) (j : Nat) (hj : j < zs.length) : w.cell? ⟨g, j, none⟩ = some (.float .f32 (zs.getD j 0)) := by
  rw [World.ownsRow.cellAt h j (by omega)]
  simp [hj]
theorem OF_set {B : Nat} {w : World} {g cap : Nat} {zs : List Nat} (h : OF B w (.slice (some ⟨g, 0, none⟩) zs.length cap) zs) (j x : Nat) : OF B (w.setCell ⟨g, j, none⟩ (.float .f32 x)) (.slice (some ⟨g, 0, none⟩) zs.length cap) (zs.set j x) := by
  have := (World.ownsRow.stored h j (.float .f32 x)).1
  unfold OF
  rw [List.length_set, List.map_set]
  exact this
theorem OF_block {B : Nat} {w : World} {g n cap : Nat} {zs : List Nat} (h : OF B w (.slice (some ⟨g, 0, none⟩) n cap) zs) : B ≤ g := (World.ownsRow.lt h g rfl).1
set_option maxRecDepth 100000 in
set_option maxHeartbeats 8000000 in
theorem s_l07Ends (v : Value) (xs : List Nat) (w : World) (hx : RF w v xs) (hl : xs.length ≤ 1048576) :
    Calls Try.prog 87 #[v] w fun e w' => ∃ u, e = .returned u ∧ OF w.heap.size w' u (ends xs) ∧ Below w.heap.size w w' := by
  obtain ⟨p1, cap1, rfl, hm1, hc1⟩ := id hx
  have HC1 := Lib.hid hc1
  clear hx hc1
  go_enter Try.func87, Try.ntmps87
  go_wp2_with fail
  go_loopw [3, 10] (fun t i wr => ∃ k : Nat, k ≤ xs.length ∧ i = .int .i64 k ∧ OF w.heap.size wr t (ends (xs.take k)) ∧ Below w.heap.size w wr) (fun _ i _ => xs.length - (intOf i).toNat)
  case atStart => exact ⟨0, Nat.zero_le _, rfl, OF_empty _ _ _ (by simp) (by simp) _ rfl, (by repeat (first | exact Below.refl _ _ | assumption | refine below_drewN ?_ _ | refine below_alloc (Nat.le_refl _) ?_ _ | (refine Below.setCell ?_ (by first | exact Nat.le_refl _ | (simp; done) | (simp; omega) | omega) _) | (refine below_step (Nat.le_refl _) ?_ (by assumption))))⟩
  case round =>
    obtain ⟨k, hk, rfl, hown, hb⟩ := hrel
    by_cases hlt : k < xs.length
    · obtain ⟨b1, o1, rfl, hcell1⟩ := HC1.out.resolve_left (by omega)
      have g1 : w.cell? ⟨b1, o1 + k, none⟩ = some (.float .f32 xs[k]) := hcell1 k _ (by simp [hlt])
      have g1 := (hb.cell (p := ⟨b1, o1 + k, none⟩) (block_lt_of_cell g1)).trans g1
      have HT := Lib.hid (ends_take xs k hlt)
      have hzl : (ends (xs.take k)).length ≤ 1048576 := by have := ends_le (xs.take k); simp at this; omega
      have HB := Lib.hid hb
      generalize ends (xs.take k) = zs at hown hzl HT
      generalize xs[k] = x at g1 HT
      have HO := Lib.hid hown
      clear hcell1 hb
      obtain ⟨hlen, hcase⟩ := hown
      by_cases hn0 : zs.length = 0
      · have e0 : Hid (endStep zs x = zs ++ [x]) := by show _ = _; simp [endStep, hn0]
        have hzs : zs = [] := List.eq_nil_of_length_eq_zero hn0
        subst hzs
        clear hlen
        rcases hcase with ⟨rfl, -⟩ | ⟨g, cap, cur, rfl, -⟩
        all_goals
          go_wp2_with fail
          ((refine wp_region_rq_lit (fun _ _ _ => False) (by kernel_rfl) (by kernel_rfl) ?_); (iterate 3 (refine wpRq_det' (by kernel_rfl) (fun K hK => ?_); go_simp; refine hK _ ?_; clear hK K)); (iterate 42 (refine wpRq_skip (by kernel_rfl) ?_)); (refine wpRq_det' (by kernel_rfl) (fun K hK => ?_); go_simp; refine hK _ ?_; clear hK K); (refine wpRq_nil ?_); intro nq)
          go_wp2_with (at_builtin; refine wpList_appF w.heap.size [] x rfl rfl rfl rfl ?_ ?_ hzl ?_ ?_)
          case _ => exact OF_below HO.out (by repeat (first | exact Below.refl _ _ | assumption | refine below_drewN ?_ _ | refine below_alloc (Nat.le_refl _) ?_ _ | (refine Below.setCell ?_ (by first | exact Nat.le_refl _ | (simp; done) | (simp; omega) | omega) _) | (refine below_step (Nat.le_refl _) ?_ (by assumption))))
          case _ => exact cell_top1 _ _ (by simp) _ _
          case _ => have := HB.out.size; simp; omega
          intro u w1 h1 h2
          have H1 := Lib.hid h1
          have H2 := Lib.hid h2
          clear h1 h2
          go_wp2
          go_roundw
          case rel =>
            refine ⟨k + 1, by omega, by go_num, by rw [HT.out, e0.out]; exact H1.out, ?_⟩
            have hb := HB.out
            exact Below.trans (by repeat (first | exact Below.refl _ _ | assumption | refine below_drewN ?_ _ | refine below_alloc (Nat.le_refl _) ?_ _ | (refine Below.setCell ?_ (by first | exact Nat.le_refl _ | (simp; done) | (simp; omega) | omega) _) | (refine below_step (Nat.le_refl _) ?_ (by assumption)))) H2.out
          case measure => simp [intOf]; omega
      · have hzne : zs ≠ [] := by intro h; subst h; simp at hn0
        rcases hcase with ⟨-, h0⟩ | ⟨g, cap, cur, rfl, -⟩
        · exact absurd (by simpa using h0) hzne
        obtain ⟨n, hn⟩ : ∃ n, zs.length = n + 1 := ⟨zs.length - 1, by omega⟩
        have gl : wr.cell? ⟨g, n, none⟩ = some (.float .f32 (lastOf zs)) := by rw [OF_cell HO.out n (by omega)]; simp [lastOf, hn]
        have gf : wr.frozen? ⟨g, n, none⟩ = false := HO.out.frozenAt n
        clear hlen hn0 hzne
        cases hE : feq .f32 x (lastOf zs)
        · have HE := Lib.hid hE
          by_cases hn0 : n = 0
          · subst hn0
            have hE' : (FloatKind.f32.format.order x (lastOf zs) == some .eq) = false := hE
            clear hE
            have HO1 : Hid (OF w.heap.size wr (.slice (some ⟨g, 0, none⟩) 1 cap) zs) := by have h := HO.out; rw [hn] at h; exact h
            rw [hn] at hzl
            have e0 : Hid (endStep zs x = zs ++ [x]) := by show _ = _; unfold endStep; rw [if_neg (by omega), if_neg (by rw [HE.out]; simp), if_pos hn]
            go_wp2_with fail
            ((refine wp_region_rq_lit (fun _ _ _ => False) (by kernel_rfl) (by kernel_rfl) ?_); (iterate 3 (refine wpRq_det' (by kernel_rfl) (fun K hK => ?_); go_simp; refine hK _ ?_; clear hK K)); (iterate 42 (refine wpRq_skip (by kernel_rfl) ?_)); (refine wpRq_det' (by kernel_rfl) (fun K hK => ?_); go_simp; refine hK _ ?_; clear hK K); (refine wpRq_nil ?_); intro nq)
            go_wp2_with (at_builtin; refine wpList_appF w.heap.size zs x rfl rfl rfl rfl ?_ ?_ (by rw [hn]; exact hzl) ?_ ?_)
            case _ => exact OF_below HO1.out (by repeat (first | exact Below.refl _ _ | assumption | refine below_drewN ?_ _ | refine below_alloc (Nat.le_refl _) ?_ _ | (refine Below.setCell ?_ (by first | exact Nat.le_refl _ | (simp; done) | (simp; omega) | omega) _) | (refine below_step (Nat.le_refl _) ?_ (by assumption))))
            case _ => exact cell_top1 _ _ (by simp) _ _
            case _ => have := HB.out.size; simp; omega
            intro u w1 h1 h2
            have H1 := Lib.hid h1
            have H2 := Lib.hid h2
            clear h1 h2
            go_wp2
            go_roundw
            case rel =>
              refine ⟨k + 1, by omega, by go_num, by rw [HT.out, e0.out]; exact H1.out, ?_⟩
              have hb := HB.out
              exact Below.trans (by repeat (first | exact Below.refl _ _ | assumption | refine below_drewN ?_ _ | refine below_alloc (Nat.le_refl _) ?_ _ | (refine Below.setCell ?_ (by first | exact Nat.le_refl _ | (simp; done) | (simp; omega) | omega) _) | (refine below_step (Nat.le_refl _) ?_ (by assumption)))) H2.out
            case measure => simp [intOf]; omega
          · obtain ⟨m, rfl⟩ : ∃ m, n = m + 1 := ⟨n - 1, by omega⟩
            have gp : wr.cell? ⟨g, m, none⟩ = some (.float .f32 (prevOf zs)) := by rw [OF_cell HO.out m (by omega)]; simp [prevOf, hn]
            have hE' : (FloatKind.f32.format.order x (lastOf zs) == some .eq) = false := hE
            clear hE hn0
            have es : Hid (endStep zs x = if onward zs x then zs.set (m + 1) x else zs ++ [x]) := by show _ = _; unfold endStep; rw [if_neg (by omega), if_neg (by rw [HE.out]; simp), if_neg (by omega), show zs.length - 1 = m + 1 by omega]
            rw [hn] at hzl

            have HO1 : Hid (OF w.heap.size wr (.slice (some ⟨g, 0, none⟩) (m + 2) cap) zs) := by have h := HO.out; rw [hn] at h; exact h
            have hzl0 := hzl
            cases hA : fgt .f32 (lastOf zs) (prevOf zs)
            · have hA' : (FloatKind.f32.format.order (lastOf zs) (prevOf zs) == some .gt) = false := hA
              have HA := Lib.hid hA
              clear hA
              cases hC : flt .f32 (lastOf zs) (prevOf zs)
              · have hC' : (FloatKind.f32.format.order (lastOf zs) (prevOf zs) == some .lt) = false := hC
                have HC := Lib.hid hC
                clear hC
                have e0 : Hid (endStep zs x = zs ++ [x]) := by show _ = _; rw [es.out]; unfold onward; rw [HA.out]; rw [HC.out]; simp
                clear es
                go_wp2_with fail
                have q1 : decide ((1 : Int) < (m : Int) + 1 + 1) = true := by simp; omega
                have q9 : decide ((1 : Int) ≤ (m : Int) + 1) = true := by simp; omega
                have q2 : IntKind.i64.wrap ((m : Int) + 1) = (m : Int) + 1 := by rw [IntKind.wrap_i64]; omega
                have q3 : IntKind.i64.wrap (m : Int) = (m : Int) := by rw [IntKind.wrap_i64]; omega
                have q4 : (0 : Int) ≤ (m : Int) + 1 := by omega
                have q5 : ((m : Int) + 1).toNat = m + 1 := by omega
                have q7 : (m : Int) < (m : Int) + 1 := by omega
                have q8 : (m : Int) + 1 + 1 - 2 = (m : Int) := by omega
                have q6 : (m : Int) < (m : Int) + 1 + 1 := by omega
                ((refine wp_region_rq_lit (fun _ _ _ => False) (by kernel_rfl) (by kernel_rfl) ?_); (iterate 15 (refine wpRq_det' (by kernel_rfl) (fun K hK => ?_); go_simp; refine hK _ ?_; clear hK K)); (iterate 7 (refine wpRq_skip (by kernel_rfl) ?_)); (iterate 2 (refine wpRq_det' (by kernel_rfl) (fun K hK => ?_); go_simp; refine hK _ ?_; clear hK K)); (iterate 12 (refine wpRq_det' (by kernel_rfl) (fun K hK => ?_); go_simp; refine hK _ ?_; clear hK K)); (iterate 7 (refine wpRq_skip (by kernel_rfl) ?_)); (refine wpRq_det' (by kernel_rfl) (fun K hK => ?_); go_simp; refine hK _ ?_; clear hK K); (iterate 2 (refine wpRq_det' (by kernel_rfl) (fun K hK => ?_); go_simp; refine hK _ ?_; clear hK K)); (refine wpRq_nil ?_); intro nq)
                go_wp2_with (at_builtin; refine wpList_appF w.heap.size zs x rfl rfl rfl rfl ?_ ?_ (by rw [hn]; exact hzl) ?_ ?_)
                case _ => exact OF_below HO1.out (by repeat (first | exact Below.refl _ _ | assumption | refine below_drewN ?_ _ | refine below_alloc (Nat.le_refl _) ?_ _ | (refine Below.setCell ?_ (by first | exact Nat.le_refl _ | (simp; done) | (simp; omega) | omega) _) | (refine below_step (Nat.le_refl _) ?_ (by assumption))))
                case _ => exact cell_top1 _ _ (by simp) _ _
                case _ => have := HB.out.size; simp; omega
                intro u w1 h1 h2
                have H1 := Lib.hid h1
                have H2 := Lib.hid h2
                clear h1 h2
                go_wp2
                go_roundw
                case rel =>
                  refine ⟨k + 1, by omega, by go_num, by rw [HT.out, e0.out]; exact H1.out, ?_⟩
                  have hb := HB.out
                  exact Below.trans (by repeat (first | exact Below.refl _ _ | assumption | refine below_drewN ?_ _ | refine below_alloc (Nat.le_refl _) ?_ _ | (refine Below.setCell ?_ (by first | exact Nat.le_refl _ | (simp; done) | (simp; omega) | omega) _) | (refine below_step (Nat.le_refl _) ?_ (by assumption)))) H2.out
                case measure => simp [intOf]; omega
              · have hC' : (FloatKind.f32.format.order (lastOf zs) (prevOf zs) == some .lt) = true := hC
                have HC := Lib.hid hC
                clear hC
                cases hD : fgt .f32 (lastOf zs) x
                · have hD' : (FloatKind.f32.format.order (lastOf zs) x == some .gt) = false := hD
                  have HD := Lib.hid hD
                  clear hD
                  have e0 : Hid (endStep zs x = zs ++ [x]) := by show _ = _; rw [es.out]; unfold onward; rw [HA.out]; rw [HC.out]; rw [HD.out]; simp
                  clear es
                  go_wp2_with fail
                  have q1 : decide ((1 : Int) < (m : Int) + 1 + 1) = true := by simp; omega
                  have q9 : decide ((1 : Int) ≤ (m : Int) + 1) = true := by simp; omega
                  have q2 : IntKind.i64.wrap ((m : Int) + 1) = (m : Int) + 1 := by rw [IntKind.wrap_i64]; omega
                  have q3 : IntKind.i64.wrap (m : Int) = (m : Int) := by rw [IntKind.wrap_i64]; omega
                  have q4 : (0 : Int) ≤ (m : Int) + 1 := by omega
                  have q5 : ((m : Int) + 1).toNat = m + 1 := by omega
                  have q7 : (m : Int) < (m : Int) + 1 := by omega
                  have q8 : (m : Int) + 1 + 1 - 2 = (m : Int) := by omega
                  have q6 : (m : Int) < (m : Int) + 1 + 1 := by omega
                  ((refine wp_region_rq_lit (fun _ _ _ => False) (by kernel_rfl) (by kernel_rfl) ?_); (iterate 15 (refine wpRq_det' (by kernel_rfl) (fun K hK => ?_); go_simp; refine hK _ ?_; clear hK K)); (iterate 7 (refine wpRq_skip (by kernel_rfl) ?_)); (iterate 2 (refine wpRq_det' (by kernel_rfl) (fun K hK => ?_); go_simp; refine hK _ ?_; clear hK K)); (iterate 12 (refine wpRq_det' (by kernel_rfl) (fun K hK => ?_); go_simp; refine hK _ ?_; clear hK K)); (iterate 7 (refine wpRq_det' (by kernel_rfl) (fun K hK => ?_); go_simp; refine hK _ ?_; clear hK K)); (refine wpRq_det' (by kernel_rfl) (fun K hK => ?_); go_simp; refine hK _ ?_; clear hK K); (iterate 2 (refine wpRq_det' (by kernel_rfl) (fun K hK => ?_); go_simp; refine hK _ ?_; clear hK K)); (refine wpRq_nil ?_); intro nq)
                  go_wp2_with (at_builtin; refine wpList_appF w.heap.size zs x rfl rfl rfl rfl ?_ ?_ (by rw [hn]; exact hzl) ?_ ?_)
                  case _ => exact OF_below HO1.out (by repeat (first | exact Below.refl _ _ | assumption | refine below_drewN ?_ _ | refine below_alloc (Nat.le_refl _) ?_ _ | (refine Below.setCell ?_ (by first | exact Nat.le_refl _ | (simp; done) | (simp; omega) | omega) _) | (refine below_step (Nat.le_refl _) ?_ (by assumption))))
                  case _ => exact cell_top1 _ _ (by simp) _ _
                  case _ => have := HB.out.size; simp; omega
                  intro u w1 h1 h2
                  have H1 := Lib.hid h1
                  have H2 := Lib.hid h2
                  clear h1 h2
                  go_wp2
                  go_roundw
                  case rel =>
                    refine ⟨k + 1, by omega, by go_num, by rw [HT.out, e0.out]; exact H1.out, ?_⟩
                    have hb := HB.out
                    exact Below.trans (by repeat (first | exact Below.refl _ _ | assumption | refine below_drewN ?_ _ | refine below_alloc (Nat.le_refl _) ?_ _ | (refine Below.setCell ?_ (by first | exact Nat.le_refl _ | (simp; done) | (simp; omega) | omega) _) | (refine below_step (Nat.le_refl _) ?_ (by assumption)))) H2.out
                  case measure => simp [intOf]; omega
                · have hD' : (FloatKind.f32.format.order (lastOf zs) x == some .gt) = true := hD
                  have HD := Lib.hid hD
                  clear hD
                  have e0 : Hid (endStep zs x = zs.set (m + 1) x) := by show _ = _; rw [es.out]; unfold onward; rw [HA.out]; rw [HC.out]; rw [HD.out]; simp
                  clear es
                  go_wp2_with fail
                  have q1 : decide ((1 : Int) < (m : Int) + 1 + 1) = true := by simp; omega
                  have q9 : decide ((1 : Int) ≤ (m : Int) + 1) = true := by simp; omega
                  have q2 : IntKind.i64.wrap ((m : Int) + 1) = (m : Int) + 1 := by rw [IntKind.wrap_i64]; omega
                  have q3 : IntKind.i64.wrap (m : Int) = (m : Int) := by rw [IntKind.wrap_i64]; omega
                  have q4 : (0 : Int) ≤ (m : Int) + 1 := by omega
                  have q5 : ((m : Int) + 1).toNat = m + 1 := by omega
                  have q7 : (m : Int) < (m : Int) + 1 := by omega
                  have q8 : (m : Int) + 1 + 1 - 2 = (m : Int) := by omega
                  have q6 : (m : Int) < (m : Int) + 1 + 1 := by omega
                  ((refine wp_region_rq_lit (fun _ _ _ => False) (by kernel_rfl) (by kernel_rfl) ?_); (iterate 15 (refine wpRq_det' (by kernel_rfl) (fun K hK => ?_); go_simp; refine hK _ ?_; clear hK K)); (iterate 7 (refine wpRq_skip (by kernel_rfl) ?_)); (iterate 2 (refine wpRq_det' (by kernel_rfl) (fun K hK => ?_); go_simp; refine hK _ ?_; clear hK K)); (iterate 12 (refine wpRq_det' (by kernel_rfl) (fun K hK => ?_); go_simp; refine hK _ ?_; clear hK K)); (iterate 7 (refine wpRq_det' (by kernel_rfl) (fun K hK => ?_); go_simp; refine hK _ ?_; clear hK K)); (refine wpRq_det' (by kernel_rfl) (fun K hK => ?_); go_simp; refine hK _ ?_; clear hK K); (iterate 2 (refine wpRq_det' (by kernel_rfl) (fun K hK => ?_); go_simp; refine hK _ ?_; clear hK K)); (refine wpRq_nil ?_); intro nq)
                  go_wp2_with fail
                  go_roundw
                  case rel =>
                    have hb := HB.out
                    have hg : w.heap.size ≤ g := OF_block HO.out
                    have h := OF_set (w := wr.drewN nq) (OF_below HO.out (by repeat (first | exact Below.refl _ _ | assumption | refine below_drewN ?_ _ | refine below_alloc (Nat.le_refl _) ?_ _ | (refine Below.setCell ?_ (by first | exact Nat.le_refl _ | (simp; done) | (simp; omega) | omega) _) | (refine below_step (Nat.le_refl _) ?_ (by assumption))))) (m + 1) x
                    rw [hn] at h
                    exact ⟨k + 1, by omega, by go_num, by rw [HT.out, e0.out]; exact h, (by repeat (first | exact Below.refl _ _ | assumption | refine below_drewN ?_ _ | refine below_alloc (Nat.le_refl _) ?_ _ | (refine Below.setCell ?_ (by first | exact Nat.le_refl _ | (simp; done) | (simp; omega) | omega) _) | (refine below_step (Nat.le_refl _) ?_ (by assumption))))⟩
                  case measure => simp [intOf]; omega
            · have hA' : (FloatKind.f32.format.order (lastOf zs) (prevOf zs) == some .gt) = true := hA
              have HA := Lib.hid hA
              clear hA
              cases hBB : flt .f32 (lastOf zs) x
              · have hBB' : (FloatKind.f32.format.order (lastOf zs) x == some .lt) = false := hBB
                have HBB := Lib.hid hBB
                clear hBB
                cases hC : flt .f32 (lastOf zs) (prevOf zs)
                · have hC' : (FloatKind.f32.format.order (lastOf zs) (prevOf zs) == some .lt) = false := hC
                  have HC := Lib.hid hC
                  clear hC
                  have e0 : Hid (endStep zs x = zs ++ [x]) := by show _ = _; rw [es.out]; unfold onward; rw [HA.out]; rw [HBB.out]; rw [HC.out]; simp
                  clear es
                  go_wp2_with fail
                  have q1 : decide ((1 : Int) < (m : Int) + 1 + 1) = true := by simp; omega
                  have q9 : decide ((1 : Int) ≤ (m : Int) + 1) = true := by simp; omega
                  have q2 : IntKind.i64.wrap ((m : Int) + 1) = (m : Int) + 1 := by rw [IntKind.wrap_i64]; omega
                  have q3 : IntKind.i64.wrap (m : Int) = (m : Int) := by rw [IntKind.wrap_i64]; omega
                  have q4 : (0 : Int) ≤ (m : Int) + 1 := by omega
                  have q5 : ((m : Int) + 1).toNat = m + 1 := by omega
                  have q7 : (m : Int) < (m : Int) + 1 := by omega
                  have q8 : (m : Int) + 1 + 1 - 2 = (m : Int) := by omega
                  have q6 : (m : Int) < (m : Int) + 1 + 1 := by omega
                  ((refine wp_region_rq_lit (fun _ _ _ => False) (by kernel_rfl) (by kernel_rfl) ?_); (iterate 15 (refine wpRq_det' (by kernel_rfl) (fun K hK => ?_); go_simp; refine hK _ ?_; clear hK K)); (iterate 7 (refine wpRq_det' (by kernel_rfl) (fun K hK => ?_); go_simp; refine hK _ ?_; clear hK K)); (iterate 2 (refine wpRq_det' (by kernel_rfl) (fun K hK => ?_); go_simp; refine hK _ ?_; clear hK K)); (iterate 12 (refine wpRq_det' (by kernel_rfl) (fun K hK => ?_); go_simp; refine hK _ ?_; clear hK K)); (iterate 7 (refine wpRq_skip (by kernel_rfl) ?_)); (refine wpRq_det' (by kernel_rfl) (fun K hK => ?_); go_simp; refine hK _ ?_; clear hK K); (iterate 2 (refine wpRq_det' (by kernel_rfl) (fun K hK => ?_); go_simp; refine hK _ ?_; clear hK K)); (refine wpRq_nil ?_); intro nq)
                  go_wp2_with (at_builtin; refine wpList_appF w.heap.size zs x rfl rfl rfl rfl ?_ ?_ (by rw [hn]; exact hzl) ?_ ?_)
                  case _ => exact OF_below HO1.out (by repeat (first | exact Below.refl _ _ | assumption | refine below_drewN ?_ _ | refine below_alloc (Nat.le_refl _) ?_ _ | (refine Below.setCell ?_ (by first | exact Nat.le_refl _ | (simp; done) | (simp; omega) | omega) _) | (refine below_step (Nat.le_refl _) ?_ (by assumption))))
                  case _ => exact cell_top1 _ _ (by simp) _ _
                  case _ => have := HB.out.size; simp; omega
                  intro u w1 h1 h2
                  have H1 := Lib.hid h1
                  have H2 := Lib.hid h2
                  clear h1 h2
                  go_wp2
                  go_roundw
                  case rel =>
                    refine ⟨k + 1, by omega, by go_num, by rw [HT.out, e0.out]; exact H1.out, ?_⟩
                    have hb := HB.out
                    exact Below.trans (by repeat (first | exact Below.refl _ _ | assumption | refine below_drewN ?_ _ | refine below_alloc (Nat.le_refl _) ?_ _ | (refine Below.setCell ?_ (by first | exact Nat.le_refl _ | (simp; done) | (simp; omega) | omega) _) | (refine below_step (Nat.le_refl _) ?_ (by assumption)))) H2.out
                  case measure => simp [intOf]; omega
                · have hC' : (FloatKind.f32.format.order (lastOf zs) (prevOf zs) == some .lt) = true := hC
                  have HC := Lib.hid hC
                  clear hC
                  cases hD : fgt .f32 (lastOf zs) x
                  · have hD' : (FloatKind.f32.format.order (lastOf zs) x == some .gt) = false := hD
                    have HD := Lib.hid hD
                    clear hD
                    have e0 : Hid (endStep zs x = zs ++ [x]) := by show _ = _; rw [es.out]; unfold onward; rw [HA.out]; rw [HBB.out]; rw [HC.out]; rw [HD.out]; simp
                    clear es
                    go_wp2_with fail
                    have q1 : decide ((1 : Int) < (m : Int) + 1 + 1) = true := by simp; omega
                    have q9 : decide ((1 : Int) ≤ (m : Int) + 1) = true := by simp; omega
                    have q2 : IntKind.i64.wrap ((m : Int) + 1) = (m : Int) + 1 := by rw [IntKind.wrap_i64]; omega
                    have q3 : IntKind.i64.wrap (m : Int) = (m : Int) := by rw [IntKind.wrap_i64]; omega
                    have q4 : (0 : Int) ≤ (m : Int) + 1 := by omega
                    have q5 : ((m : Int) + 1).toNat = m + 1 := by omega
                    have q7 : (m : Int) < (m : Int) + 1 := by omega
                    have q8 : (m : Int) + 1 + 1 - 2 = (m : Int) := by omega
                    have q6 : (m : Int) < (m : Int) + 1 + 1 := by omega
                    ((refine wp_region_rq_lit (fun _ _ _ => False) (by kernel_rfl) (by kernel_rfl) ?_); (iterate 15 (refine wpRq_det' (by kernel_rfl) (fun K hK => ?_); go_simp; refine hK _ ?_; clear hK K)); (iterate 7 (refine wpRq_det' (by kernel_rfl) (fun K hK => ?_); go_simp; refine hK _ ?_; clear hK K)); (iterate 2 (refine wpRq_det' (by kernel_rfl) (fun K hK => ?_); go_simp; refine hK _ ?_; clear hK K)); (iterate 12 (refine wpRq_det' (by kernel_rfl) (fun K hK => ?_); go_simp; refine hK _ ?_; clear hK K)); (iterate 7 (refine wpRq_det' (by kernel_rfl) (fun K hK => ?_); go_simp; refine hK _ ?_; clear hK K)); (refine wpRq_det' (by kernel_rfl) (fun K hK => ?_); go_simp; refine hK _ ?_; clear hK K); (iterate 2 (refine wpRq_det' (by kernel_rfl) (fun K hK => ?_); go_simp; refine hK _ ?_; clear hK K)); (refine wpRq_nil ?_); intro nq)
                    go_wp2_with (at_builtin; refine wpList_appF w.heap.size zs x rfl rfl rfl rfl ?_ ?_ (by rw [hn]; exact hzl) ?_ ?_)
                    case _ => exact OF_below HO1.out (by repeat (first | exact Below.refl _ _ | assumption | refine below_drewN ?_ _ | refine below_alloc (Nat.le_refl _) ?_ _ | (refine Below.setCell ?_ (by first | exact Nat.le_refl _ | (simp; done) | (simp; omega) | omega) _) | (refine below_step (Nat.le_refl _) ?_ (by assumption))))
                    case _ => exact cell_top1 _ _ (by simp) _ _
                    case _ => have := HB.out.size; simp; omega
                    intro u w1 h1 h2
                    have H1 := Lib.hid h1
                    have H2 := Lib.hid h2
                    clear h1 h2
                    go_wp2
                    go_roundw
                    case rel =>
                      refine ⟨k + 1, by omega, by go_num, by rw [HT.out, e0.out]; exact H1.out, ?_⟩
                      have hb := HB.out
                      exact Below.trans (by repeat (first | exact Below.refl _ _ | assumption | refine below_drewN ?_ _ | refine below_alloc (Nat.le_refl _) ?_ _ | (refine Below.setCell ?_ (by first | exact Nat.le_refl _ | (simp; done) | (simp; omega) | omega) _) | (refine below_step (Nat.le_refl _) ?_ (by assumption)))) H2.out
                    case measure => simp [intOf]; omega
                  · have hD' : (FloatKind.f32.format.order (lastOf zs) x == some .gt) = true := hD
                    have HD := Lib.hid hD
                    clear hD
                    have e0 : Hid (endStep zs x = zs.set (m + 1) x) := by show _ = _; rw [es.out]; unfold onward; rw [HA.out]; rw [HBB.out]; rw [HC.out]; rw [HD.out]; simp
                    clear es
                    go_wp2_with fail
                    have q1 : decide ((1 : Int) < (m : Int) + 1 + 1) = true := by simp; omega
                    have q9 : decide ((1 : Int) ≤ (m : Int) + 1) = true := by simp; omega
                    have q2 : IntKind.i64.wrap ((m : Int) + 1) = (m : Int) + 1 := by rw [IntKind.wrap_i64]; omega
                    have q3 : IntKind.i64.wrap (m : Int) = (m : Int) := by rw [IntKind.wrap_i64]; omega
                    have q4 : (0 : Int) ≤ (m : Int) + 1 := by omega
                    have q5 : ((m : Int) + 1).toNat = m + 1 := by omega
                    have q7 : (m : Int) < (m : Int) + 1 := by omega
                    have q8 : (m : Int) + 1 + 1 - 2 = (m : Int) := by omega
                    have q6 : (m : Int) < (m : Int) + 1 + 1 := by omega
                    ((refine wp_region_rq_lit (fun _ _ _ => False) (by kernel_rfl) (by kernel_rfl) ?_); (iterate 15 (refine wpRq_det' (by kernel_rfl) (fun K hK => ?_); go_simp; refine hK _ ?_; clear hK K)); (iterate 7 (refine wpRq_det' (by kernel_rfl) (fun K hK => ?_); go_simp; refine hK _ ?_; clear hK K)); (iterate 2 (refine wpRq_det' (by kernel_rfl) (fun K hK => ?_); go_simp; refine hK _ ?_; clear hK K)); (iterate 12 (refine wpRq_det' (by kernel_rfl) (fun K hK => ?_); go_simp; refine hK _ ?_; clear hK K)); (iterate 7 (refine wpRq_det' (by kernel_rfl) (fun K hK => ?_); go_simp; refine hK _ ?_; clear hK K)); (refine wpRq_det' (by kernel_rfl) (fun K hK => ?_); go_simp; refine hK _ ?_; clear hK K); (iterate 2 (refine wpRq_det' (by kernel_rfl) (fun K hK => ?_); go_simp; refine hK _ ?_; clear hK K)); (refine wpRq_nil ?_); intro nq)
                    go_wp2_with fail
                    go_roundw
                    case rel =>
                      have hb := HB.out
                      have hg : w.heap.size ≤ g := OF_block HO.out
                      have h := OF_set (w := wr.drewN nq) (OF_below HO.out (by repeat (first | exact Below.refl _ _ | assumption | refine below_drewN ?_ _ | refine below_alloc (Nat.le_refl _) ?_ _ | (refine Below.setCell ?_ (by first | exact Nat.le_refl _ | (simp; done) | (simp; omega) | omega) _) | (refine below_step (Nat.le_refl _) ?_ (by assumption))))) (m + 1) x
                      rw [hn] at h
                      exact ⟨k + 1, by omega, by go_num, by rw [HT.out, e0.out]; exact h, (by repeat (first | exact Below.refl _ _ | assumption | refine below_drewN ?_ _ | refine below_alloc (Nat.le_refl _) ?_ _ | (refine Below.setCell ?_ (by first | exact Nat.le_refl _ | (simp; done) | (simp; omega) | omega) _) | (refine below_step (Nat.le_refl _) ?_ (by assumption))))⟩
                    case measure => simp [intOf]; omega
              · have hBB' : (FloatKind.f32.format.order (lastOf zs) x == some .lt) = true := hBB
                have HBB := Lib.hid hBB
                clear hBB
                have e0 : Hid (endStep zs x = zs.set (m + 1) x) := by show _ = _; rw [es.out]; unfold onward; rw [HA.out]; rw [HBB.out]; simp
                clear es
                go_wp2_with fail
                have q1 : decide ((1 : Int) < (m : Int) + 1 + 1) = true := by simp; omega
                have q9 : decide ((1 : Int) ≤ (m : Int) + 1) = true := by simp; omega
                have q2 : IntKind.i64.wrap ((m : Int) + 1) = (m : Int) + 1 := by rw [IntKind.wrap_i64]; omega
                have q3 : IntKind.i64.wrap (m : Int) = (m : Int) := by rw [IntKind.wrap_i64]; omega
                have q4 : (0 : Int) ≤ (m : Int) + 1 := by omega
                have q5 : ((m : Int) + 1).toNat = m + 1 := by omega
                have q7 : (m : Int) < (m : Int) + 1 := by omega
                have q8 : (m : Int) + 1 + 1 - 2 = (m : Int) := by omega
                have q6 : (m : Int) < (m : Int) + 1 + 1 := by omega
                ((refine wp_region_rq_lit (fun _ _ _ => False) (by kernel_rfl) (by kernel_rfl) ?_); (iterate 15 (refine wpRq_det' (by kernel_rfl) (fun K hK => ?_); go_simp; refine hK _ ?_; clear hK K)); (iterate 7 (refine wpRq_det' (by kernel_rfl) (fun K hK => ?_); go_simp; refine hK _ ?_; clear hK K)); (iterate 2 (refine wpRq_det' (by kernel_rfl) (fun K hK => ?_); go_simp; refine hK _ ?_; clear hK K)); (iterate 20 (refine wpRq_skip (by kernel_rfl) ?_)); (iterate 2 (refine wpRq_det' (by kernel_rfl) (fun K hK => ?_); go_simp; refine hK _ ?_; clear hK K)); (refine wpRq_nil ?_); intro nq)
                go_wp2_with fail
                go_roundw
                case rel =>
                  have hb := HB.out
                  have hg : w.heap.size ≤ g := OF_block HO.out
                  have h := OF_set (w := wr.drewN nq) (OF_below HO.out (by repeat (first | exact Below.refl _ _ | assumption | refine below_drewN ?_ _ | refine below_alloc (Nat.le_refl _) ?_ _ | (refine Below.setCell ?_ (by first | exact Nat.le_refl _ | (simp; done) | (simp; omega) | omega) _) | (refine below_step (Nat.le_refl _) ?_ (by assumption))))) (m + 1) x
                  rw [hn] at h
                  exact ⟨k + 1, by omega, by go_num, by rw [HT.out, e0.out]; exact h, (by repeat (first | exact Below.refl _ _ | assumption | refine below_drewN ?_ _ | refine below_alloc (Nat.le_refl _) ?_ _ | (refine Below.setCell ?_ (by first | exact Nat.le_refl _ | (simp; done) | (simp; omega) | omega) _) | (refine below_step (Nat.le_refl _) ?_ (by assumption))))⟩
                case measure => simp [intOf]; omega
        · have e0 : Hid (endStep zs x = zs) := by show _ = _; unfold endStep; rw [if_neg (by omega), if_pos hE]
          have hE' : (FloatKind.f32.format.order x (lastOf zs) == some .eq) = true := hE
          clear hE
          go_wp2_with fail
          go_roundw
          case rel =>
            have hb := HB.out
            exact ⟨k + 1, by omega, by go_num, by rw [HT.out, e0.out]; exact OF_below HO.out (by repeat (first | exact Below.refl _ _ | assumption | refine below_drewN ?_ _ | refine below_alloc (Nat.le_refl _) ?_ _ | (refine Below.setCell ?_ (by first | exact Nat.le_refl _ | (simp; done) | (simp; omega) | omega) _) | (refine below_step (Nat.le_refl _) ?_ (by assumption)))), (by repeat (first | exact Below.refl _ _ | assumption | refine below_drewN ?_ _ | refine below_alloc (Nat.le_refl _) ?_ _ | (refine Below.setCell ?_ (by first | exact Nat.le_refl _ | (simp; done) | (simp; omega) | omega) _) | (refine below_step (Nat.le_refl _) ?_ (by assumption))))⟩
          case measure => simp [intOf]; omega
    · obtain rfl : k = xs.length := by omega
      rw [List.take_length] at hown
      go_wp2
      go_ret
      exact ⟨_, rfl, hown, hb⟩
set_option maxRecDepth 100000 in
set_option maxHeartbeats 8000000 in
theorem i_endsOf (v : Value) (xs : List Nat) (w : World) (hx : RF w v xs) (hl : xs.length ≤ 1048576) :
    Calls Try.prog 62 #[v] w fun e w' => ∃ u, e = .returned u ∧ OF w.heap.size w' u (ends xs) ∧ Below w.heap.size w w' := by
  obtain ⟨p1, cap1, rfl, hm1, hc1⟩ := id hx
  have HC1 := Lib.hid hc1
  clear hx hc1
  go_enter Try.func62, Try.ntmps62
  go_wp2_with fail
  go_loopw [3, 10] (fun t i wr => ∃ k : Nat, k ≤ xs.length ∧ i = .int .i64 k ∧ OF w.heap.size wr t (ends (xs.take k)) ∧ Below w.heap.size w wr) (fun _ i _ => xs.length - (intOf i).toNat)
  case atStart => exact ⟨0, Nat.zero_le _, rfl, OF_empty _ _ _ (by simp) (by simp) _ rfl, (by repeat (first | exact Below.refl _ _ | assumption | refine below_drewN ?_ _ | refine below_alloc (Nat.le_refl _) ?_ _ | (refine Below.setCell ?_ (by first | exact Nat.le_refl _ | (simp; done) | (simp; omega) | omega) _) | (refine below_step (Nat.le_refl _) ?_ (by assumption))))⟩
  case round =>
    obtain ⟨k, hk, rfl, hown, hb⟩ := hrel
    by_cases hlt : k < xs.length
    · obtain ⟨b1, o1, rfl, hcell1⟩ := HC1.out.resolve_left (by omega)
      have g1 : w.cell? ⟨b1, o1 + k, none⟩ = some (.float .f32 xs[k]) := hcell1 k _ (by simp [hlt])
      have g1 := (hb.cell (p := ⟨b1, o1 + k, none⟩) (block_lt_of_cell g1)).trans g1
      have HT := Lib.hid (ends_take xs k hlt)
      have hzl : (ends (xs.take k)).length ≤ 1048576 := by have := ends_le (xs.take k); simp at this; omega
      have HB := Lib.hid hb
      generalize ends (xs.take k) = zs at hown hzl HT
      generalize xs[k] = x at g1 HT
      have HO := Lib.hid hown
      clear hcell1 hb
      obtain ⟨hlen, hcase⟩ := hown
      by_cases hn0 : zs.length = 0
      · have e0 : Hid (endStep zs x = zs ++ [x]) := by show _ = _; simp [endStep, hn0]
        have hzs : zs = [] := List.eq_nil_of_length_eq_zero hn0
        subst hzs
        clear hlen
        rcases hcase with ⟨rfl, -⟩ | ⟨g, cap, cur, rfl, -⟩
        all_goals
          go_wp2_with fail
          ((refine wp_region_rq_lit (fun _ _ _ => False) (by kernel_rfl) (by kernel_rfl) ?_); (iterate 3 (refine wpRq_det' (by kernel_rfl) (fun K hK => ?_); go_simp; refine hK _ ?_; clear hK K)); (iterate 38 (refine wpRq_skip (by kernel_rfl) ?_)); (iterate 2 (refine wpRq_det' (by kernel_rfl) (fun K hK => ?_); go_simp; refine hK _ ?_; clear hK K)); (refine wpRq_nil ?_); intro nq)
          go_wp2_with (at_builtin; refine wpList_appF w.heap.size [] x rfl rfl rfl rfl ?_ ?_ hzl ?_ ?_)
          case _ => exact OF_below HO.out (by repeat (first | exact Below.refl _ _ | assumption | refine below_drewN ?_ _ | refine below_alloc (Nat.le_refl _) ?_ _ | (refine Below.setCell ?_ (by first | exact Nat.le_refl _ | (simp; done) | (simp; omega) | omega) _) | (refine below_step (Nat.le_refl _) ?_ (by assumption))))
          case _ => exact cell_top1 _ _ (by simp) _ _
          case _ => have := HB.out.size; simp; omega
          intro u w1 h1 h2
          have H1 := Lib.hid h1
          have H2 := Lib.hid h2
          clear h1 h2
          go_wp2
          go_roundw
          case rel =>
            refine ⟨k + 1, by omega, by go_num, by rw [HT.out, e0.out]; exact H1.out, ?_⟩
            have hb := HB.out
            exact Below.trans (by repeat (first | exact Below.refl _ _ | assumption | refine below_drewN ?_ _ | refine below_alloc (Nat.le_refl _) ?_ _ | (refine Below.setCell ?_ (by first | exact Nat.le_refl _ | (simp; done) | (simp; omega) | omega) _) | (refine below_step (Nat.le_refl _) ?_ (by assumption)))) H2.out
          case measure => simp [intOf]; omega
      · have hzne : zs ≠ [] := by intro h; subst h; simp at hn0
        rcases hcase with ⟨-, h0⟩ | ⟨g, cap, cur, rfl, -⟩
        · exact absurd (by simpa using h0) hzne
        obtain ⟨n, hn⟩ : ∃ n, zs.length = n + 1 := ⟨zs.length - 1, by omega⟩
        have gl : wr.cell? ⟨g, n, none⟩ = some (.float .f32 (lastOf zs)) := by rw [OF_cell HO.out n (by omega)]; simp [lastOf, hn]
        have gf : wr.frozen? ⟨g, n, none⟩ = false := HO.out.frozenAt n
        clear hlen hn0 hzne
        cases hE : feq .f32 x (lastOf zs)
        · have HE := Lib.hid hE
          by_cases hn0 : n = 0
          · subst hn0
            have hE' : (FloatKind.f32.format.order (lastOf zs) x == some .eq) = false := (by rw [feq_comm] at hE; exact hE)
            clear hE
            have HO1 : Hid (OF w.heap.size wr (.slice (some ⟨g, 0, none⟩) 1 cap) zs) := by have h := HO.out; rw [hn] at h; exact h
            rw [hn] at hzl
            have e0 : Hid (endStep zs x = zs ++ [x]) := by show _ = _; unfold endStep; rw [if_neg (by omega), if_neg (by rw [HE.out]; simp), if_pos hn]
            go_wp2_with fail
            ((refine wp_region_rq_lit (fun _ _ _ => False) (by kernel_rfl) (by kernel_rfl) ?_); (iterate 3 (refine wpRq_det' (by kernel_rfl) (fun K hK => ?_); go_simp; refine hK _ ?_; clear hK K)); (iterate 38 (refine wpRq_skip (by kernel_rfl) ?_)); (iterate 2 (refine wpRq_det' (by kernel_rfl) (fun K hK => ?_); go_simp; refine hK _ ?_; clear hK K)); (refine wpRq_nil ?_); intro nq)
            go_wp2_with (at_builtin; refine wpList_appF w.heap.size zs x rfl rfl rfl rfl ?_ ?_ (by rw [hn]; exact hzl) ?_ ?_)
            case _ => exact OF_below HO1.out (by repeat (first | exact Below.refl _ _ | assumption | refine below_drewN ?_ _ | refine below_alloc (Nat.le_refl _) ?_ _ | (refine Below.setCell ?_ (by first | exact Nat.le_refl _ | (simp; done) | (simp; omega) | omega) _) | (refine below_step (Nat.le_refl _) ?_ (by assumption))))
            case _ => exact cell_top1 _ _ (by simp) _ _
            case _ => have := HB.out.size; simp; omega
            intro u w1 h1 h2
            have H1 := Lib.hid h1
            have H2 := Lib.hid h2
            clear h1 h2
            go_wp2
            go_roundw
            case rel =>
              refine ⟨k + 1, by omega, by go_num, by rw [HT.out, e0.out]; exact H1.out, ?_⟩
              have hb := HB.out
              exact Below.trans (by repeat (first | exact Below.refl _ _ | assumption | refine below_drewN ?_ _ | refine below_alloc (Nat.le_refl _) ?_ _ | (refine Below.setCell ?_ (by first | exact Nat.le_refl _ | (simp; done) | (simp; omega) | omega) _) | (refine below_step (Nat.le_refl _) ?_ (by assumption)))) H2.out
            case measure => simp [intOf]; omega
          · obtain ⟨m, rfl⟩ : ∃ m, n = m + 1 := ⟨n - 1, by omega⟩
            have gp : wr.cell? ⟨g, m, none⟩ = some (.float .f32 (prevOf zs)) := by rw [OF_cell HO.out m (by omega)]; simp [prevOf, hn]
            have hE' : (FloatKind.f32.format.order (lastOf zs) x == some .eq) = false := (by rw [feq_comm] at hE; exact hE)
            clear hE hn0
            have es : Hid (endStep zs x = if onward zs x then zs.set (m + 1) x else zs ++ [x]) := by show _ = _; unfold endStep; rw [if_neg (by omega), if_neg (by rw [HE.out]; simp), if_neg (by omega), show zs.length - 1 = m + 1 by omega]
            rw [hn] at hzl

            have HO1 : Hid (OF w.heap.size wr (.slice (some ⟨g, 0, none⟩) (m + 2) cap) zs) := by have h := HO.out; rw [hn] at h; exact h
            have hzl0 := hzl
            cases hA : fgt .f32 (lastOf zs) (prevOf zs)
            · have hA' : (FloatKind.f32.format.order (lastOf zs) (prevOf zs) == some .gt) = false := hA
              have HA := Lib.hid hA
              clear hA
              cases hC : flt .f32 (lastOf zs) (prevOf zs)
              · have hC' : (FloatKind.f32.format.order (lastOf zs) (prevOf zs) == some .lt) = false := hC
                have HC := Lib.hid hC
                clear hC
                have e0 : Hid (endStep zs x = zs ++ [x]) := by show _ = _; rw [es.out]; unfold onward; rw [HA.out]; rw [HC.out]; simp
                clear es
                go_wp2_with fail
                have q1 : decide ((1 : Int) < (m : Int) + 1 + 1) = true := by simp; omega
                have q9 : decide ((1 : Int) ≤ (m : Int) + 1) = true := by simp; omega
                have q2 : IntKind.i64.wrap ((m : Int) + 1) = (m : Int) + 1 := by rw [IntKind.wrap_i64]; omega
                have q3 : IntKind.i64.wrap (m : Int) = (m : Int) := by rw [IntKind.wrap_i64]; omega
                have q4 : (0 : Int) ≤ (m : Int) + 1 := by omega
                have q5 : ((m : Int) + 1).toNat = m + 1 := by omega
                have q7 : (m : Int) < (m : Int) + 1 := by omega
                have q8 : (m : Int) + 1 + 1 - 2 = (m : Int) := by omega
                have q6 : (m : Int) < (m : Int) + 1 + 1 := by omega
                ((refine wp_region_rq_lit (fun _ _ _ => False) (by kernel_rfl) (by kernel_rfl) ?_); (iterate 14 (refine wpRq_det' (by kernel_rfl) (fun K hK => ?_); go_simp; refine hK _ ?_; clear hK K)); (iterate 6 (refine wpRq_skip (by kernel_rfl) ?_)); (iterate 2 (refine wpRq_det' (by kernel_rfl) (fun K hK => ?_); go_simp; refine hK _ ?_; clear hK K)); (iterate 11 (refine wpRq_det' (by kernel_rfl) (fun K hK => ?_); go_simp; refine hK _ ?_; clear hK K)); (iterate 6 (refine wpRq_skip (by kernel_rfl) ?_)); (refine wpRq_det' (by kernel_rfl) (fun K hK => ?_); go_simp; refine hK _ ?_; clear hK K); (iterate 3 (refine wpRq_det' (by kernel_rfl) (fun K hK => ?_); go_simp; refine hK _ ?_; clear hK K)); (refine wpRq_nil ?_); intro nq)
                go_wp2_with (at_builtin; refine wpList_appF w.heap.size zs x rfl rfl rfl rfl ?_ ?_ (by rw [hn]; exact hzl) ?_ ?_)
                case _ => exact OF_below HO1.out (by repeat (first | exact Below.refl _ _ | assumption | refine below_drewN ?_ _ | refine below_alloc (Nat.le_refl _) ?_ _ | (refine Below.setCell ?_ (by first | exact Nat.le_refl _ | (simp; done) | (simp; omega) | omega) _) | (refine below_step (Nat.le_refl _) ?_ (by assumption))))
                case _ => exact cell_top1 _ _ (by simp) _ _
                case _ => have := HB.out.size; simp; omega
                intro u w1 h1 h2
                have H1 := Lib.hid h1
                have H2 := Lib.hid h2
                clear h1 h2
                go_wp2
                go_roundw
                case rel =>
                  refine ⟨k + 1, by omega, by go_num, by rw [HT.out, e0.out]; exact H1.out, ?_⟩
                  have hb := HB.out
                  exact Below.trans (by repeat (first | exact Below.refl _ _ | assumption | refine below_drewN ?_ _ | refine below_alloc (Nat.le_refl _) ?_ _ | (refine Below.setCell ?_ (by first | exact Nat.le_refl _ | (simp; done) | (simp; omega) | omega) _) | (refine below_step (Nat.le_refl _) ?_ (by assumption)))) H2.out
                case measure => simp [intOf]; omega
              · have hC' : (FloatKind.f32.format.order (lastOf zs) (prevOf zs) == some .lt) = true := hC
                have HC := Lib.hid hC
                clear hC
                cases hD : fgt .f32 (lastOf zs) x
                · have hD' : (FloatKind.f32.format.order (lastOf zs) x == some .gt) = false := hD
                  have HD := Lib.hid hD
                  clear hD
                  have e0 : Hid (endStep zs x = zs ++ [x]) := by show _ = _; rw [es.out]; unfold onward; rw [HA.out]; rw [HC.out]; rw [HD.out]; simp
                  clear es
                  go_wp2_with fail
                  have q1 : decide ((1 : Int) < (m : Int) + 1 + 1) = true := by simp; omega
                  have q9 : decide ((1 : Int) ≤ (m : Int) + 1) = true := by simp; omega
                  have q2 : IntKind.i64.wrap ((m : Int) + 1) = (m : Int) + 1 := by rw [IntKind.wrap_i64]; omega
                  have q3 : IntKind.i64.wrap (m : Int) = (m : Int) := by rw [IntKind.wrap_i64]; omega
                  have q4 : (0 : Int) ≤ (m : Int) + 1 := by omega
                  have q5 : ((m : Int) + 1).toNat = m + 1 := by omega
                  have q7 : (m : Int) < (m : Int) + 1 := by omega
                  have q8 : (m : Int) + 1 + 1 - 2 = (m : Int) := by omega
                  have q6 : (m : Int) < (m : Int) + 1 + 1 := by omega
                  ((refine wp_region_rq_lit (fun _ _ _ => False) (by kernel_rfl) (by kernel_rfl) ?_); (iterate 14 (refine wpRq_det' (by kernel_rfl) (fun K hK => ?_); go_simp; refine hK _ ?_; clear hK K)); (iterate 6 (refine wpRq_skip (by kernel_rfl) ?_)); (iterate 2 (refine wpRq_det' (by kernel_rfl) (fun K hK => ?_); go_simp; refine hK _ ?_; clear hK K)); (iterate 11 (refine wpRq_det' (by kernel_rfl) (fun K hK => ?_); go_simp; refine hK _ ?_; clear hK K)); (iterate 6 (refine wpRq_det' (by kernel_rfl) (fun K hK => ?_); go_simp; refine hK _ ?_; clear hK K)); (refine wpRq_det' (by kernel_rfl) (fun K hK => ?_); go_simp; refine hK _ ?_; clear hK K); (iterate 3 (refine wpRq_det' (by kernel_rfl) (fun K hK => ?_); go_simp; refine hK _ ?_; clear hK K)); (refine wpRq_nil ?_); intro nq)
                  go_wp2_with (at_builtin; refine wpList_appF w.heap.size zs x rfl rfl rfl rfl ?_ ?_ (by rw [hn]; exact hzl) ?_ ?_)
                  case _ => exact OF_below HO1.out (by repeat (first | exact Below.refl _ _ | assumption | refine below_drewN ?_ _ | refine below_alloc (Nat.le_refl _) ?_ _ | (refine Below.setCell ?_ (by first | exact Nat.le_refl _ | (simp; done) | (simp; omega) | omega) _) | (refine below_step (Nat.le_refl _) ?_ (by assumption))))
                  case _ => exact cell_top1 _ _ (by simp) _ _
                  case _ => have := HB.out.size; simp; omega
                  intro u w1 h1 h2
                  have H1 := Lib.hid h1
                  have H2 := Lib.hid h2
                  clear h1 h2
                  go_wp2
                  go_roundw
                  case rel =>
                    refine ⟨k + 1, by omega, by go_num, by rw [HT.out, e0.out]; exact H1.out, ?_⟩
                    have hb := HB.out
                    exact Below.trans (by repeat (first | exact Below.refl _ _ | assumption | refine below_drewN ?_ _ | refine below_alloc (Nat.le_refl _) ?_ _ | (refine Below.setCell ?_ (by first | exact Nat.le_refl _ | (simp; done) | (simp; omega) | omega) _) | (refine below_step (Nat.le_refl _) ?_ (by assumption)))) H2.out
                  case measure => simp [intOf]; omega
                · have hD' : (FloatKind.f32.format.order (lastOf zs) x == some .gt) = true := hD
                  have HD := Lib.hid hD
                  clear hD
                  have e0 : Hid (endStep zs x = zs.set (m + 1) x) := by show _ = _; rw [es.out]; unfold onward; rw [HA.out]; rw [HC.out]; rw [HD.out]; simp
                  clear es
                  go_wp2_with fail
                  have q1 : decide ((1 : Int) < (m : Int) + 1 + 1) = true := by simp; omega
                  have q9 : decide ((1 : Int) ≤ (m : Int) + 1) = true := by simp; omega
                  have q2 : IntKind.i64.wrap ((m : Int) + 1) = (m : Int) + 1 := by rw [IntKind.wrap_i64]; omega
                  have q3 : IntKind.i64.wrap (m : Int) = (m : Int) := by rw [IntKind.wrap_i64]; omega
                  have q4 : (0 : Int) ≤ (m : Int) + 1 := by omega
                  have q5 : ((m : Int) + 1).toNat = m + 1 := by omega
                  have q7 : (m : Int) < (m : Int) + 1 := by omega
                  have q8 : (m : Int) + 1 + 1 - 2 = (m : Int) := by omega
                  have q6 : (m : Int) < (m : Int) + 1 + 1 := by omega
                  ((refine wp_region_rq_lit (fun _ _ _ => False) (by kernel_rfl) (by kernel_rfl) ?_); (iterate 14 (refine wpRq_det' (by kernel_rfl) (fun K hK => ?_); go_simp; refine hK _ ?_; clear hK K)); (iterate 6 (refine wpRq_skip (by kernel_rfl) ?_)); (iterate 2 (refine wpRq_det' (by kernel_rfl) (fun K hK => ?_); go_simp; refine hK _ ?_; clear hK K)); (iterate 11 (refine wpRq_det' (by kernel_rfl) (fun K hK => ?_); go_simp; refine hK _ ?_; clear hK K)); (iterate 6 (refine wpRq_det' (by kernel_rfl) (fun K hK => ?_); go_simp; refine hK _ ?_; clear hK K)); (refine wpRq_det' (by kernel_rfl) (fun K hK => ?_); go_simp; refine hK _ ?_; clear hK K); (iterate 3 (refine wpRq_det' (by kernel_rfl) (fun K hK => ?_); go_simp; refine hK _ ?_; clear hK K)); (refine wpRq_nil ?_); intro nq)
                  go_wp2_with fail
                  go_roundw
                  case rel =>
                    have hb := HB.out
                    have hg : w.heap.size ≤ g := OF_block HO.out
                    have h := OF_set (w := wr.drewN nq) (OF_below HO.out (by repeat (first | exact Below.refl _ _ | assumption | refine below_drewN ?_ _ | refine below_alloc (Nat.le_refl _) ?_ _ | (refine Below.setCell ?_ (by first | exact Nat.le_refl _ | (simp; done) | (simp; omega) | omega) _) | (refine below_step (Nat.le_refl _) ?_ (by assumption))))) (m + 1) x
                    rw [hn] at h
                    exact ⟨k + 1, by omega, by go_num, by rw [HT.out, e0.out]; exact h, (by repeat (first | exact Below.refl _ _ | assumption | refine below_drewN ?_ _ | refine below_alloc (Nat.le_refl _) ?_ _ | (refine Below.setCell ?_ (by first | exact Nat.le_refl _ | (simp; done) | (simp; omega) | omega) _) | (refine below_step (Nat.le_refl _) ?_ (by assumption))))⟩
                  case measure => simp [intOf]; omega
            · have hA' : (FloatKind.f32.format.order (lastOf zs) (prevOf zs) == some .gt) = true := hA
              have HA := Lib.hid hA
              clear hA
              cases hBB : flt .f32 (lastOf zs) x
              · have hBB' : (FloatKind.f32.format.order (lastOf zs) x == some .lt) = false := hBB
                have HBB := Lib.hid hBB
                clear hBB
                cases hC : flt .f32 (lastOf zs) (prevOf zs)
                · have hC' : (FloatKind.f32.format.order (lastOf zs) (prevOf zs) == some .lt) = false := hC
                  have HC := Lib.hid hC
                  clear hC
                  have e0 : Hid (endStep zs x = zs ++ [x]) := by show _ = _; rw [es.out]; unfold onward; rw [HA.out]; rw [HBB.out]; rw [HC.out]; simp
                  clear es
                  go_wp2_with fail
                  have q1 : decide ((1 : Int) < (m : Int) + 1 + 1) = true := by simp; omega
                  have q9 : decide ((1 : Int) ≤ (m : Int) + 1) = true := by simp; omega
                  have q2 : IntKind.i64.wrap ((m : Int) + 1) = (m : Int) + 1 := by rw [IntKind.wrap_i64]; omega
                  have q3 : IntKind.i64.wrap (m : Int) = (m : Int) := by rw [IntKind.wrap_i64]; omega
                  have q4 : (0 : Int) ≤ (m : Int) + 1 := by omega
                  have q5 : ((m : Int) + 1).toNat = m + 1 := by omega
                  have q7 : (m : Int) < (m : Int) + 1 := by omega
                  have q8 : (m : Int) + 1 + 1 - 2 = (m : Int) := by omega
                  have q6 : (m : Int) < (m : Int) + 1 + 1 := by omega
                  ((refine wp_region_rq_lit (fun _ _ _ => False) (by kernel_rfl) (by kernel_rfl) ?_); (iterate 14 (refine wpRq_det' (by kernel_rfl) (fun K hK => ?_); go_simp; refine hK _ ?_; clear hK K)); (iterate 6 (refine wpRq_det' (by kernel_rfl) (fun K hK => ?_); go_simp; refine hK _ ?_; clear hK K)); (iterate 2 (refine wpRq_det' (by kernel_rfl) (fun K hK => ?_); go_simp; refine hK _ ?_; clear hK K)); (iterate 11 (refine wpRq_det' (by kernel_rfl) (fun K hK => ?_); go_simp; refine hK _ ?_; clear hK K)); (iterate 6 (refine wpRq_skip (by kernel_rfl) ?_)); (refine wpRq_det' (by kernel_rfl) (fun K hK => ?_); go_simp; refine hK _ ?_; clear hK K); (iterate 3 (refine wpRq_det' (by kernel_rfl) (fun K hK => ?_); go_simp; refine hK _ ?_; clear hK K)); (refine wpRq_nil ?_); intro nq)
                  go_wp2_with (at_builtin; refine wpList_appF w.heap.size zs x rfl rfl rfl rfl ?_ ?_ (by rw [hn]; exact hzl) ?_ ?_)
                  case _ => exact OF_below HO1.out (by repeat (first | exact Below.refl _ _ | assumption | refine below_drewN ?_ _ | refine below_alloc (Nat.le_refl _) ?_ _ | (refine Below.setCell ?_ (by first | exact Nat.le_refl _ | (simp; done) | (simp; omega) | omega) _) | (refine below_step (Nat.le_refl _) ?_ (by assumption))))
                  case _ => exact cell_top1 _ _ (by simp) _ _
                  case _ => have := HB.out.size; simp; omega
                  intro u w1 h1 h2
                  have H1 := Lib.hid h1
                  have H2 := Lib.hid h2
                  clear h1 h2
                  go_wp2
                  go_roundw
                  case rel =>
                    refine ⟨k + 1, by omega, by go_num, by rw [HT.out, e0.out]; exact H1.out, ?_⟩
                    have hb := HB.out
                    exact Below.trans (by repeat (first | exact Below.refl _ _ | assumption | refine below_drewN ?_ _ | refine below_alloc (Nat.le_refl _) ?_ _ | (refine Below.setCell ?_ (by first | exact Nat.le_refl _ | (simp; done) | (simp; omega) | omega) _) | (refine below_step (Nat.le_refl _) ?_ (by assumption)))) H2.out
                  case measure => simp [intOf]; omega
                · have hC' : (FloatKind.f32.format.order (lastOf zs) (prevOf zs) == some .lt) = true := hC
                  have HC := Lib.hid hC
                  clear hC
                  cases hD : fgt .f32 (lastOf zs) x
                  · have hD' : (FloatKind.f32.format.order (lastOf zs) x == some .gt) = false := hD
                    have HD := Lib.hid hD
                    clear hD
                    have e0 : Hid (endStep zs x = zs ++ [x]) := by show _ = _; rw [es.out]; unfold onward; rw [HA.out]; rw [HBB.out]; rw [HC.out]; rw [HD.out]; simp
                    clear es
                    go_wp2_with fail
                    have q1 : decide ((1 : Int) < (m : Int) + 1 + 1) = true := by simp; omega
                    have q9 : decide ((1 : Int) ≤ (m : Int) + 1) = true := by simp; omega
                    have q2 : IntKind.i64.wrap ((m : Int) + 1) = (m : Int) + 1 := by rw [IntKind.wrap_i64]; omega
                    have q3 : IntKind.i64.wrap (m : Int) = (m : Int) := by rw [IntKind.wrap_i64]; omega
                    have q4 : (0 : Int) ≤ (m : Int) + 1 := by omega
                    have q5 : ((m : Int) + 1).toNat = m + 1 := by omega
                    have q7 : (m : Int) < (m : Int) + 1 := by omega
                    have q8 : (m : Int) + 1 + 1 - 2 = (m : Int) := by omega
                    have q6 : (m : Int) < (m : Int) + 1 + 1 := by omega
                    ((refine wp_region_rq_lit (fun _ _ _ => False) (by kernel_rfl) (by kernel_rfl) ?_); (iterate 14 (refine wpRq_det' (by kernel_rfl) (fun K hK => ?_); go_simp; refine hK _ ?_; clear hK K)); (iterate 6 (refine wpRq_det' (by kernel_rfl) (fun K hK => ?_); go_simp; refine hK _ ?_; clear hK K)); (iterate 2 (refine wpRq_det' (by kernel_rfl) (fun K hK => ?_); go_simp; refine hK _ ?_; clear hK K)); (iterate 11 (refine wpRq_det' (by kernel_rfl) (fun K hK => ?_); go_simp; refine hK _ ?_; clear hK K)); (iterate 6 (refine wpRq_det' (by kernel_rfl) (fun K hK => ?_); go_simp; refine hK _ ?_; clear hK K)); (refine wpRq_det' (by kernel_rfl) (fun K hK => ?_); go_simp; refine hK _ ?_; clear hK K); (iterate 3 (refine wpRq_det' (by kernel_rfl) (fun K hK => ?_); go_simp; refine hK _ ?_; clear hK K)); (refine wpRq_nil ?_); intro nq)
                    go_wp2_with (at_builtin; refine wpList_appF w.heap.size zs x rfl rfl rfl rfl ?_ ?_ (by rw [hn]; exact hzl) ?_ ?_)
                    case _ => exact OF_below HO1.out (by repeat (first | exact Below.refl _ _ | assumption | refine below_drewN ?_ _ | refine below_alloc (Nat.le_refl _) ?_ _ | (refine Below.setCell ?_ (by first | exact Nat.le_refl _ | (simp; done) | (simp; omega) | omega) _) | (refine below_step (Nat.le_refl _) ?_ (by assumption))))
                    case _ => exact cell_top1 _ _ (by simp) _ _
                    case _ => have := HB.out.size; simp; omega
                    intro u w1 h1 h2
                    have H1 := Lib.hid h1
                    have H2 := Lib.hid h2
                    clear h1 h2
                    go_wp2
                    go_roundw
                    case rel =>
                      refine ⟨k + 1, by omega, by go_num, by rw [HT.out, e0.out]; exact H1.out, ?_⟩
                      have hb := HB.out
                      exact Below.trans (by repeat (first | exact Below.refl _ _ | assumption | refine below_drewN ?_ _ | refine below_alloc (Nat.le_refl _) ?_ _ | (refine Below.setCell ?_ (by first | exact Nat.le_refl _ | (simp; done) | (simp; omega) | omega) _) | (refine below_step (Nat.le_refl _) ?_ (by assumption)))) H2.out
                    case measure => simp [intOf]; omega
                  · have hD' : (FloatKind.f32.format.order (lastOf zs) x == some .gt) = true := hD
                    have HD := Lib.hid hD
                    clear hD
                    have e0 : Hid (endStep zs x = zs.set (m + 1) x) := by show _ = _; rw [es.out]; unfold onward; rw [HA.out]; rw [HBB.out]; rw [HC.out]; rw [HD.out]; simp
                    clear es
                    go_wp2_with fail
                    have q1 : decide ((1 : Int) < (m : Int) + 1 + 1) = true := by simp; omega
                    have q9 : decide ((1 : Int) ≤ (m : Int) + 1) = true := by simp; omega
                    have q2 : IntKind.i64.wrap ((m : Int) + 1) = (m : Int) + 1 := by rw [IntKind.wrap_i64]; omega
                    have q3 : IntKind.i64.wrap (m : Int) = (m : Int) := by rw [IntKind.wrap_i64]; omega
                    have q4 : (0 : Int) ≤ (m : Int) + 1 := by omega
                    have q5 : ((m : Int) + 1).toNat = m + 1 := by omega
                    have q7 : (m : Int) < (m : Int) + 1 := by omega
                    have q8 : (m : Int) + 1 + 1 - 2 = (m : Int) := by omega
                    have q6 : (m : Int) < (m : Int) + 1 + 1 := by omega
                    ((refine wp_region_rq_lit (fun _ _ _ => False) (by kernel_rfl) (by kernel_rfl) ?_); (iterate 14 (refine wpRq_det' (by kernel_rfl) (fun K hK => ?_); go_simp; refine hK _ ?_; clear hK K)); (iterate 6 (refine wpRq_det' (by kernel_rfl) (fun K hK => ?_); go_simp; refine hK _ ?_; clear hK K)); (iterate 2 (refine wpRq_det' (by kernel_rfl) (fun K hK => ?_); go_simp; refine hK _ ?_; clear hK K)); (iterate 11 (refine wpRq_det' (by kernel_rfl) (fun K hK => ?_); go_simp; refine hK _ ?_; clear hK K)); (iterate 6 (refine wpRq_det' (by kernel_rfl) (fun K hK => ?_); go_simp; refine hK _ ?_; clear hK K)); (refine wpRq_det' (by kernel_rfl) (fun K hK => ?_); go_simp; refine hK _ ?_; clear hK K); (iterate 3 (refine wpRq_det' (by kernel_rfl) (fun K hK => ?_); go_simp; refine hK _ ?_; clear hK K)); (refine wpRq_nil ?_); intro nq)
                    go_wp2_with fail
                    go_roundw
                    case rel =>
                      have hb := HB.out
                      have hg : w.heap.size ≤ g := OF_block HO.out
                      have h := OF_set (w := wr.drewN nq) (OF_below HO.out (by repeat (first | exact Below.refl _ _ | assumption | refine below_drewN ?_ _ | refine below_alloc (Nat.le_refl _) ?_ _ | (refine Below.setCell ?_ (by first | exact Nat.le_refl _ | (simp; done) | (simp; omega) | omega) _) | (refine below_step (Nat.le_refl _) ?_ (by assumption))))) (m + 1) x
                      rw [hn] at h
                      exact ⟨k + 1, by omega, by go_num, by rw [HT.out, e0.out]; exact h, (by repeat (first | exact Below.refl _ _ | assumption | refine below_drewN ?_ _ | refine below_alloc (Nat.le_refl _) ?_ _ | (refine Below.setCell ?_ (by first | exact Nat.le_refl _ | (simp; done) | (simp; omega) | omega) _) | (refine below_step (Nat.le_refl _) ?_ (by assumption))))⟩
                    case measure => simp [intOf]; omega
              · have hBB' : (FloatKind.f32.format.order (lastOf zs) x == some .lt) = true := hBB
                have HBB := Lib.hid hBB
                clear hBB
                have e0 : Hid (endStep zs x = zs.set (m + 1) x) := by show _ = _; rw [es.out]; unfold onward; rw [HA.out]; rw [HBB.out]; simp
                clear es
                go_wp2_with fail
                have q1 : decide ((1 : Int) < (m : Int) + 1 + 1) = true := by simp; omega
                have q9 : decide ((1 : Int) ≤ (m : Int) + 1) = true := by simp; omega
                have q2 : IntKind.i64.wrap ((m : Int) + 1) = (m : Int) + 1 := by rw [IntKind.wrap_i64]; omega
                have q3 : IntKind.i64.wrap (m : Int) = (m : Int) := by rw [IntKind.wrap_i64]; omega
                have q4 : (0 : Int) ≤ (m : Int) + 1 := by omega
                have q5 : ((m : Int) + 1).toNat = m + 1 := by omega
                have q7 : (m : Int) < (m : Int) + 1 := by omega
                have q8 : (m : Int) + 1 + 1 - 2 = (m : Int) := by omega
                have q6 : (m : Int) < (m : Int) + 1 + 1 := by omega
                ((refine wp_region_rq_lit (fun _ _ _ => False) (by kernel_rfl) (by kernel_rfl) ?_); (iterate 14 (refine wpRq_det' (by kernel_rfl) (fun K hK => ?_); go_simp; refine hK _ ?_; clear hK K)); (iterate 6 (refine wpRq_det' (by kernel_rfl) (fun K hK => ?_); go_simp; refine hK _ ?_; clear hK K)); (iterate 2 (refine wpRq_det' (by kernel_rfl) (fun K hK => ?_); go_simp; refine hK _ ?_; clear hK K)); (iterate 18 (refine wpRq_skip (by kernel_rfl) ?_)); (iterate 3 (refine wpRq_det' (by kernel_rfl) (fun K hK => ?_); go_simp; refine hK _ ?_; clear hK K)); (refine wpRq_nil ?_); intro nq)
                go_wp2_with fail
                go_roundw
                case rel =>
                  have hb := HB.out
                  have hg : w.heap.size ≤ g := OF_block HO.out
                  have h := OF_set (w := wr.drewN nq) (OF_below HO.out (by repeat (first | exact Below.refl _ _ | assumption | refine below_drewN ?_ _ | refine below_alloc (Nat.le_refl _) ?_ _ | (refine Below.setCell ?_ (by first | exact Nat.le_refl _ | (simp; done) | (simp; omega) | omega) _) | (refine below_step (Nat.le_refl _) ?_ (by assumption))))) (m + 1) x
                  rw [hn] at h
                  exact ⟨k + 1, by omega, by go_num, by rw [HT.out, e0.out]; exact h, (by repeat (first | exact Below.refl _ _ | assumption | refine below_drewN ?_ _ | refine below_alloc (Nat.le_refl _) ?_ _ | (refine Below.setCell ?_ (by first | exact Nat.le_refl _ | (simp; done) | (simp; omega) | omega) _) | (refine below_step (Nat.le_refl _) ?_ (by assumption))))⟩
                case measure => simp [intOf]; omega
        · have e0 : Hid (endStep zs x = zs) := by show _ = _; unfold endStep; rw [if_neg (by omega), if_pos hE]
          have hE' : (FloatKind.f32.format.order (lastOf zs) x == some .eq) = true := (by rw [feq_comm] at hE; exact hE)
          clear hE
          go_wp2_with fail
          go_roundw
          case rel =>
            have hb := HB.out
            exact ⟨k + 1, by omega, by go_num, by rw [HT.out, e0.out]; exact OF_below HO.out (by repeat (first | exact Below.refl _ _ | assumption | refine below_drewN ?_ _ | refine below_alloc (Nat.le_refl _) ?_ _ | (refine Below.setCell ?_ (by first | exact Nat.le_refl _ | (simp; done) | (simp; omega) | omega) _) | (refine below_step (Nat.le_refl _) ?_ (by assumption)))), (by repeat (first | exact Below.refl _ _ | assumption | refine below_drewN ?_ _ | refine below_alloc (Nat.le_refl _) ?_ _ | (refine Below.setCell ?_ (by first | exact Nat.le_refl _ | (simp; done) | (simp; omega) | omega) _) | (refine below_step (Nat.le_refl _) ?_ (by assumption))))⟩
          case measure => simp [intOf]; omega
    · obtain rfl : k = xs.length := by omega
      rw [List.take_length] at hown
      go_wp2
      go_ret
      exact ⟨_, rfl, hown, hb⟩
end Go.Proofs.Ytmpmnhnobgidoaa
