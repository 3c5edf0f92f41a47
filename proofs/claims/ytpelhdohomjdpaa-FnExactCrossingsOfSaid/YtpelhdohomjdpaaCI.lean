/- Walks: lists of whole numbers: held against each other, copied, marked. -/
import Derived.Test.YtpelhdohomjdpaaM
namespace Go.Proofs.Ytpelhdohomjdpaa
set_option linter.unusedSimpArgs false
set_option linter.unusedVariables false
open Go.RowKit Go.Fl

/-- A slice of whole numbers. -/
def RI (w : World) (v : Value) (xs : List Int) : Prop := Sl w v xs.length (xs.map (Value.int .i64))
def OI (B : Nat) (w : World) (v : Value) (xs : List Int) : Prop := w.ownsRow B 2 1 v xs.length (xs.map (Value.int .i64))
theorem RI_of_own {B : Nat} {w : World} {v : Value} {xs : List Int} (h : OI B w v xs) (hn : xs.length ≤ 281474976710656) : RI w v xs := Sl_of_own h hn
theorem OI_below {B : Nat} {w w' : World} {v : Value} {xs : List Int} (h : OI B w v xs) (hb : Below w.heap.size w w') : OI B w' v xs := ownsRow_below h hb
theorem RI_below {w w' : World} {v : Value} {xs : List Int} (h : RI w v xs) (hb : Below w.heap.size w w') : RI w' v xs := Sl.below h (.inr trivial) hb (Nat.le_refl _)
theorem OI_nil (B : Nat) (w : World) : OI B w (.slice none 0 0) [] := World.ownsRow_nil _ _ _ _
set_option maxHeartbeats 400000 in
theorem l_eqInt64S (v v' : Value) (xs : List Int) (w : World) (hx : RI w v xs) (hy : RI w v' xs) :
    Calls Try.prog 12 #[v, v'] w fun e w' => e = .returned (.bool true) ∧ ∃ n, w' = w.drewN n := by
  obtain ⟨p1, cap1, rfl, hm1, hc1⟩ := hx
  obtain ⟨p2, cap2, rfl, hm2, hc2⟩ := hy
  go_enter Try.func12, Try.ntmps12
  go_wp2_with fail
  go_loopw [5] (fun i wr => ∃ k n : Nat, k ≤ xs.length ∧ i = .int .i64 k ∧ wr = w.drewN n) (fun i _ => xs.length - (intOf i).toNat)
  case atStart => exact ⟨0, 0, Nat.zero_le _, rfl, rfl⟩
  case round =>
    obtain ⟨k, n, hk, rfl, rfl⟩ := hrel
    by_cases hlt : k < xs.length
    · obtain ⟨b1, o1, rfl, hcell1⟩ := hc1.resolve_left (by omega)
      obtain ⟨b2, o2, rfl, hcell2⟩ := hc2.resolve_left (by omega)
      have h1 : w.cell? ⟨b1, o1 + k, none⟩ = some (.int .i64 xs[k]) := hcell1 k _ (by simp [hlt])
      have h2 : w.cell? ⟨b2, o2 + k, none⟩ = some (.int .i64 xs[k]) := hcell2 k _ (by simp [hlt])
      clear hcell1 hcell2 hc1 hc2
      go_wp2_with fail
      ((refine wp_region_rq_lit (fun _ _ u => u = .bool true) (by kernel_rfl) (by kernel_rfl) ?_); (repeat (first | (refine wpRq_fa rfl rfl ?_ rfl rfl (by first | assumption | exact hrfl _) (by first | assumption | exact hrfl _) ?_; (focus (first | exact want_none rfl | (simp [Region.wanted, yielded]; done))); intro r hr) | (refine wpRq_skip ?_ ?_; (focus (simp [Region.wanted, yielded]; done))) | (refine wpRq_det' ?_ (fun K hK => ?_); (focus (first | exact want_none rfl | (simp [Region.wanted, yielded]; done))); go_simp; refine hK _ ?_; clear hK K))); (refine wpRq_nil ?_); intro nq)
      go_wp2
      go_roundw
      case rel => exact ⟨k + 1, _, by omega, by go_num, rfl⟩
      case measure => simp [intOf]; omega
    · go_wp2
      go_ret
      exact ⟨rfl, _, rfl⟩
/-- The cells of a copy of which the first k are written. -/
def partI (xs : List Int) (k : Nat) : List Value := (xs.take k ++ List.replicate (xs.length - k) 0).map (Value.int .i64)
theorem partI_length (xs : List Int) (k : Nat) (hk : k ≤ xs.length) : (partI xs k).length = xs.length := by simp [partI]; omega
theorem partI_zero (xs : List Int) : (madeCells #[Value.int .i64 0] xs.length).toList = partI xs 0 := by
  rw [toList_madeCells_one]; simp [partI]
theorem partI_set (xs : List Int) (k : Nat) (hk : k < xs.length) : (partI xs k).set k (.int .i64 xs[k]) = partI xs (k + 1) := by
  apply List.ext_getElem?
  intro j
  have h1 : (xs.take k).length = k := by simp; omega
  have h2 : (xs.take (k + 1)).length = k + 1 := by simp; omega
  simp only [partI, List.getElem?_set, List.length_map, List.length_append, List.length_replicate, h1, List.getElem?_map, List.getElem?_append, h2, List.getElem?_take, List.getElem?_replicate]
  by_cases e : k = j
  · subst e
    simp [hk]
    omega
  · rw [if_neg e]
    by_cases h3 : j < k
    · simp [h3, show j < k + 1 by omega]
    · have h4 : ¬ j < k + 1 := by omega
      simp only [h3, h4, if_false]
      by_cases h5 : j - k < xs.length - k
      · rw [if_pos h5, if_pos (by omega)]
      · rw [if_neg h5, if_neg (by omega)]
theorem partI_all (xs : List Int) (k : Nat) (hk : xs.length ≤ k) : partI xs k = xs.map (Value.int .i64) := by
  unfold partI; rw [List.take_of_length_le hk, show xs.length - k = 0 by omega]; simp
set_option maxHeartbeats 400000 in
theorem l_toInt64S (v : Value) (xs : List Int) (w : World) (hx : RI w v xs) (hl : xs.length ≤ 1048576) :
    Calls Try.prog 8 #[v] w fun e w' => ∃ u, e = .returned u ∧ OI w.heap.size w' u xs ∧ Below w.heap.size w w' := by
  obtain ⟨p1, cap1, rfl, hm1, hc1⟩ := hx
  have hmk := run_make_row' (P := Try.prog) 25 2 (.int .i64 0) 8 Try.underlying25 (by kernel_rfl) rfl .i64 .i64 xs.length (by omega) (by omega)
  have hstart := World.ownsRow_lit (base := w.heap.size) (e := 2) (size := 1) w (madeCells #[Value.int .i64 0] xs.length) xs.length (Nat.le_refl _) (by unfold maxLen; omega) (by rw [size_madeCells, Nat.mul_one])
  rw [partI_zero] at hstart
  have Hs := Lib.hid hstart
  clear hstart
  obtain ⟨B, hB⟩ : ∃ B, B = w.heap.size := ⟨_, rfl⟩
  have HB := Lib.hid hB
  go_enter Try.func8, Try.ntmps8
  go_wp2_with fail
  rw [← hB]
  clear hB hmk
  go_loopw [4] (fun i wr => ∃ k : Nat, k ≤ xs.length ∧ i = .int .i64 k ∧ wr.ownsRow B 2 1 (.slice (some ⟨B, 0, none⟩) xs.length xs.length) xs.length (partI xs k) ∧ Below B w wr) (fun i _ => xs.length - (intOf i).toNat)
  case atStart => exact ⟨0, Nat.zero_le _, rfl, by rw [HB.out]; exact Hs.out, by rw [HB.out]; exact (by repeat (first | exact Below.refl _ _ | assumption | refine below_drewN ?_ _ | refine below_alloc (Nat.le_refl _) ?_ _ | (refine Below.setCell ?_ (by first | exact Nat.le_refl _ | (simp; done) | (simp; omega) | omega) _) | (refine below_step (Nat.le_refl _) ?_ (by assumption))))⟩
  case round =>
    obtain ⟨k, hk, rfl, hown, hb⟩ := hrel
    by_cases hlt : k < xs.length
    · obtain ⟨b, off, rfl, hcell⟩ := hc1.resolve_left (by omega)
      have h0 : w.cell? ⟨b, off + k, none⟩ = some (.int .i64 xs[k]) := hcell k _ (by simp [hlt])
      have h1 : wr.cell? ⟨b, off + k, none⟩ = some (.int .i64 xs[k]) := (hb.cell (p := ⟨b, off + k, none⟩) (by rw [HB.out]; exact block_lt_of_cell h0)).trans h0
      have h2 : wr.cell? ⟨B, k, none⟩ = some ((partI xs k)[k]'(by rw [partI_length _ _ hk]; exact hlt)) := by rw [hown.cellAt k (by omega)]; simp [partI_length _ _ hk, hlt]
      have h3 : wr.frozen? ⟨B, k, none⟩ = false := hown.frozenAt k
      have h4 := (hown.stored k (.int .i64 xs[k])).1
      rw [partI_set xs k hlt] at h4
      have H4 := Lib.hid h4
      have Hb := Lib.hid hb
      clear hcell hc1 h0 hown hb h4
      go_wp2
      go_roundw
      case rel => exact ⟨k + 1, by omega, by go_num, H4.out, Hb.out.setCell (Nat.le_refl _) _⟩
      case measure => simp [intOf]; omega
    · have hown' : wr.ownsRow B 2 1 (.slice (some ⟨B, 0, none⟩) xs.length xs.length) xs.length (xs.map (Value.int .i64)) := by rw [← partI_all xs k (by omega)]; exact hown
      go_wp2
      go_ret
      exact ⟨_, rfl, by rw [← HB.out]; exact hown', by rw [← HB.out]; exact hb⟩
/-- The marks from k on. -/
def marksI (n : Nat) (k : Nat) : List Int := (List.range n).map fun (i : Nat) => ((k + i : Nat) : Int)
theorem marksI_length (n k : Nat) : (marksI n k).length = n := by simp [marksI]
/-- What is marked up to j. -/
def markedToI (xs : List Int) (k j : Nat) : List Int := marksI j k ++ xs.drop j
theorem markedToI_length (xs : List Int) (k j : Nat) (hj : j ≤ xs.length) : (markedToI xs k j).length = xs.length := by simp [markedToI, marksI_length]; omega
theorem markedToI_set (xs : List Int) (k j : Nat) (hj : j < xs.length) : ((markedToI xs k j).map (Value.int .i64)).set j (.int .i64 ((k + j : Nat) : Int)) = (markedToI xs k (j + 1)).map (Value.int .i64) := by
  rw [← List.map_set]
  congr 1
  apply List.ext_getElem?
  intro i
  simp only [markedToI, marksI, List.getElem?_set, List.length_append, List.length_map, List.length_range, List.length_drop, List.getElem?_append, List.getElem?_map, List.getElem?_drop]
  by_cases e : j = i
  · subst e
    simp
    omega
  · rw [if_neg e]
    by_cases h : i < j
    · simp [h, show i < j + 1 by omega]
    · rw [if_neg h, if_neg (by omega)]
      congr 1
      omega
theorem markedToI_zero (xs : List Int) (k : Nat) : markedToI xs k 0 = xs := by simp [markedToI, marksI]
theorem markedToI_all (xs : List Int) (k j : Nat) (hj : xs.length ≤ j) (hj2 : j ≤ xs.length) : markedToI xs k j = marksI xs.length k := by
  obtain rfl : j = xs.length := by omega
  simp [markedToI]
set_option maxHeartbeats 400000 in
theorem l_markInt64S (u : Value) (xs : List Int) (k0 : Nat) (K : Int) (hK : K = (k0 : Int)) (B : Nat) (w : World) (ho : OI B w u xs) (hl : xs.length ≤ 1048576) (hk : k0 ≤ 100000000) :
    Calls Try.prog 14 #[u, .int .i64 K] w fun e w' => e = .returned (.int .i64 ((k0 + xs.length : Nat) : Int)) ∧ OI B w' u (marksI xs.length k0) ∧ w.grownBy w' u.ownBlock := by
  subst hK
  obtain ⟨hlen, hcase⟩ := id ho
  have HO := Lib.hid ho
  clear ho
  by_cases h0 : xs.length = 0
  · have hxs : xs = [] := List.eq_nil_of_length_eq_zero h0
    subst hxs
    rcases hcase with ⟨rfl, -⟩ | ⟨g, cap, cur, rfl, -⟩
    all_goals
      go_enter Try.func14, Try.ntmps14
      go_wp2_with fail
      refine wp_loop_rounds 1 ?_
      rw [rounds_succ]
      go_wp2
      go_ret
      exact ⟨by simp, HO.out, ⟨rfl, rfl, rfl, Nat.le_refl _, fun _ _ _ => rfl⟩⟩
  · rcases hcase with ⟨rfl, h⟩ | ⟨g, cap, cur, rfl, -⟩
    · exact absurd h h0
    clear hlen
    go_enter Try.func14, Try.ntmps14
    go_wp2_with fail
    go_loopw [1, 5] (fun t i wr => ∃ j : Nat, j ≤ xs.length ∧ i = .int .i64 j ∧ t = .int .i64 ((k0 + j : Nat) : Int) ∧ wr.ownsRow B 2 1 (.slice (some ⟨g, 0, none⟩) xs.length cap) xs.length ((markedToI xs k0 j).map (Value.int .i64)) ∧ w.grownBy wr (some g)) (fun _ i _ => xs.length - (intOf i).toNat)
    case atStart => exact ⟨0, Nat.zero_le _, rfl, by simp, by rw [markedToI_zero]; exact HO.out, ⟨rfl, rfl, rfl, Nat.le_refl _, fun _ _ _ => rfl⟩⟩
    case round =>
      obtain ⟨j, hj, rfl, rfl, hown, hg⟩ := hrel
      by_cases hlt : j < xs.length
      · have h2 : wr.cell? ⟨g, j, none⟩ = some (.int .i64 ((markedToI xs k0 j)[j]'(by rw [markedToI_length _ _ _ hj]; exact hlt))) := by rw [hown.cellAt j (by omega)]; simp [markedToI_length _ _ _ hj, hlt]
        have h3 : wr.frozen? ⟨g, j, none⟩ = false := hown.frozenAt j
        have h4 := hown.stored j (.int .i64 ((k0 + j : Nat) : Int))
        rw [markedToI_set xs k0 j hlt] at h4
        have H4 := Lib.hid h4
        have Hg := Lib.hid hg
        clear hown hg h4
        go_wp2
        go_roundw
        case rel => exact ⟨j + 1, by omega, by go_num, by go_num, by simpa using H4.out.1, by have H := H4.out.2; simp only [Int.natCast_add] at H; exact ⟨H.os.trans Hg.out.os, H.tape.trans Hg.out.tape, H.output.trans Hg.out.output, Nat.le_trans Hg.out.size H.size, fun i hi hne => (H.block i (Nat.lt_of_lt_of_le hi Hg.out.size) hne).trans (Hg.out.block i hi hne)⟩⟩
        case measure => simp [intOf]; omega
      · have hown' := hown
        rw [markedToI_all xs k0 j (by omega) hj] at hown'
        obtain rfl : j = xs.length := by omega
        have Ho' : Hid (OI B wr (.slice (some ⟨g, 0, none⟩) xs.length cap) (marksI xs.length k0)) := by show wr.ownsRow _ _ _ _ _ _; rw [marksI_length]; exact hown'
        clear hown hown'
        go_wp2
        go_ret
        exact ⟨rfl, Ho'.out, hg⟩
set_option maxHeartbeats 400000 in
theorem l_heldInt64S (u : Value) (n : Nat) (k0 : Nat) (K : Int) (hK : K = (k0 : Int)) (w : World) (hx : RI w u (marksI n k0)) (hl : n ≤ 1048576) (hk : k0 ≤ 100000000) :
    Calls Try.prog 40 #[u, .int .i64 K] w fun e w' => e = .returned (.int .i64 ((k0 + n : Nat) : Int)) ∧ ∃ n, w' = w.drewN n := by
  subst hK
  obtain ⟨p1, cap1, rfl, hm1, hc1⟩ := hx
  rw [marksI_length] at hm1 hc1
  have hml := marksI_length n k0
  go_enter Try.func40, Try.ntmps40
  go_wp2_with fail
  go_loop [1, 5] (fun t i => ∃ j : Nat, j ≤ n ∧ i = .int .i64 j ∧ t = .int .i64 ((k0 + j : Nat) : Int)) (fun _ i => n - (intOf i).toNat)
  case atStart => exact ⟨0, Nat.zero_le _, rfl, by simp⟩
  case round =>
    obtain ⟨j, hj, rfl, rfl⟩ := hrel
    by_cases hlt : j < n
    · obtain ⟨b, off, rfl, hcell⟩ := hc1.resolve_left (by omega)
      have h1 : w.cell? ⟨b, off + j, none⟩ = some (.int .i64 ((k0 + j : Nat) : Int)) := hcell j _ (by simp [marksI, hlt])
      clear hcell hc1
      go_wp2
      go_round
      case rel => exact ⟨j + 1, by omega, by go_num, by go_num⟩
      case measure => simp [intOf]; omega
    · obtain rfl : j = n := by omega
      go_wp2
      go_ret
      exact ⟨rfl, 0, rfl⟩
end Go.Proofs.Ytpelhdohomjdpaa
