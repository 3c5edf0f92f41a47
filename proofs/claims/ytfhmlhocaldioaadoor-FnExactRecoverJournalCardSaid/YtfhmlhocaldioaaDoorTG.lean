/- Walks: lists of texts: weighed, copied, held against each other. -/
import Derived.Test.YtfhmlhocaldioaaDoorTB
import Derived.Test.YtfhmlhocaldioaaDoorR
namespace Go.Proofs.YtfhmlhocaldioaaDoor
set_option linter.unusedSimpArgs false
set_option linter.unusedVariables false
open Go.RowKit Go.Fl Go.Tx Go.Lib
theorem all_of_idx {ss : List ByteArray} {p : ByteArray → Prop} (h : ∀ j (hj : j < ss.length), p ss[j]) : ∀ s ∈ ss, p s := fun s hs => by
  obtain ⟨j, hj⟩ := List.mem_iff_getElem?.1 hs
  obtain ⟨h3, rfl⟩ := List.getElem?_eq_some_iff.1 hj
  exact h j h3
/-- A slice of texts of whatever length. -/
def RSw (w : World) (v : Value) (ss : List ByteArray) : Prop := ∃ p cap, v = .slice p ss.length cap ∧ ss.length ≤ maxLen ∧ (ss.length = 0 ∨ ∃ b off, p = some ⟨b, off, none⟩ ∧ ∀ j u, (ss.map Value.string)[j]? = some u → w.cell? ⟨b, off + j, none⟩ = some u)
theorem RS_of_w {w : World} {v : Value} {ss : List ByteArray} (h : RSw w v ss) (hl : ss.length ≤ 1048576) : RS w v ss := by
  obtain ⟨p, cap, e, _, hc⟩ := h
  exact ⟨p, cap, e, by omega, hc⟩
set_option maxHeartbeats 400000 in
theorem l_szStringS (v : Value) (ss : List ByteArray) (w : World) (hx : RSw w v ss) (hsm : ∀ s ∈ ss, s.size ≤ maxLen) :
    Calls Tryd.prog 8 #[v, .int .i64 1048576] w fun e w' => (∃ r : Int, e = .returned (.int .i64 r) ∧ (0 ≤ r → ss.length ≤ 1048576 ∧ ∀ s ∈ ss, s.size ≤ 1048576)) ∧ ∃ n, w' = w.drewN n := by
  obtain ⟨p1, cap1, rfl, hm1', hc1⟩ := hx
  have hm1 : ss.length ≤ 9223372036854775807 := by unfold maxLen at hm1'; omega
  clear hm1'
  by_cases hbig : ss.length ≤ 1048576
  case neg =>
    have q1 : (1048576 : Int) - (ss.length : Int) < 0 := by omega
    clear hbig
    go_enter Tryd.func8, Tryd.ntmps8
    go_wp2
    go_ret
    exact ⟨⟨-1, rfl, fun h => absurd h (by decide)⟩, 0, rfl⟩
  have q1 : ¬ (1048576 : Int) - (ss.length : Int) < 0 := by omega
  go_enter Tryd.func8, Tryd.ntmps8
  go_wp2_with fail
  go_loopw [1, 5] (fun t i wr => ∃ (k m : Nat) (L : Int), k ≤ ss.length ∧ i = .int .i64 k ∧ t = .int .i64 L ∧ 0 ≤ L ∧ L ≤ 1048576 ∧ wr = w.drewN m ∧ Hid (∀ j (hj : j < ss.length), j < k → ss[j].size ≤ 1048576)) (fun _ i _ => ss.length - (RowKit.intOf i).toNat)
  case atStart => exact ⟨0, 0, _, Nat.zero_le _, rfl, rfl, by omega, by omega, rfl, fun j _ h => absurd h (Nat.not_lt_zero _)⟩
  case round =>
    obtain ⟨k, m, L, hk, rfl, rfl, h0, h1, rfl, hno⟩ := hrel
    by_cases hlt : k < ss.length
    · obtain ⟨b, off, rfl, hcell⟩ := hc1.resolve_left (by omega)
      have hc : w.cell? ⟨b, off + k, none⟩ = some (.string ss[k]) := hcell k _ (by simp [hlt])
      have HK : Hid (ss[k].size ≤ 1048576 → ∀ j (hj : j < ss.length), j < k + 1 → ss[j].size ≤ 1048576) := fun h j hj h2 => by
        by_cases e : j = k
        · subst e; exact h
        · exact hno.out j hj (by omega)
      clear hcell hc1 hno q1
      have hsz : ss[k].size ≤ 9223372036854775807 := by
        have := hsm _ (List.getElem_mem hlt)
        unfold maxLen at this; omega
      generalize ss[k] = s at *
      by_cases hs : L - (s.size : Int) < 0
      · go_wp2
        go_ret
        exact ⟨⟨-1, rfl, fun h => absurd h (by decide)⟩, _, rfl⟩
      · have HR := Lib.hid (HK.out (by omega))
        clear HK
        go_wp2
        go_roundw
        case rel => exact ⟨k + 1, _, L - s.size, by omega, by go_num, by go_num, by omega, by omega, rfl, HR⟩
        case measure => simp [RowKit.intOf]; omega
    · obtain rfl : k = ss.length := by omega
      go_wp2
      go_ret
      exact ⟨⟨L, rfl, fun _ => ⟨hbig, all_of_idx fun j hj => hno.out j hj hj⟩⟩, _, rfl⟩
set_option maxHeartbeats 400000 in
theorem l_eqStringS (v v' : Value) (xs : List ByteArray) (w : World) (hx : RS w v xs) (hy : RS w v' xs) :
    Calls Tryd.prog 12 #[v, v'] w fun e w' => e = .returned (.bool true) ∧ ∃ n, w' = w.drewN n := by
  obtain ⟨p1, cap1, rfl, hm1, hc1⟩ := hx
  obtain ⟨p2, cap2, rfl, hm2, hc2⟩ := hy
  go_enter Tryd.func12, Tryd.ntmps12
  go_wp2_with fail
  go_loopw [5] (fun i wr => ∃ k n : Nat, k ≤ xs.length ∧ i = .int .i64 k ∧ wr = w.drewN n) (fun i _ => xs.length - (RowKit.intOf i).toNat)
  case atStart => exact ⟨0, 0, Nat.zero_le _, rfl, rfl⟩
  case round =>
    obtain ⟨k, n, hk, rfl, rfl⟩ := hrel
    by_cases hlt : k < xs.length
    · obtain ⟨b1, o1, rfl, hcell1⟩ := hc1.resolve_left (by omega)
      obtain ⟨b2, o2, rfl, hcell2⟩ := hc2.resolve_left (by omega)
      have h1 : w.cell? ⟨b1, o1 + k, none⟩ = some (.string xs[k]) := hcell1 k _ (by simp [hlt])
      have h2 : w.cell? ⟨b2, o2 + k, none⟩ = some (.string xs[k]) := hcell2 k _ (by simp [hlt])
      clear hcell1 hcell2 hc1 hc2
      go_wp2_with fail
      ((refine wp_region_rq_lit (fun _ _ u => u = .bool true) (by kernel_rfl) (by kernel_rfl) ?_); (repeat (first | (refine wpRq_fa rfl rfl ?_ rfl rfl (by first | assumption | exact hrfl _) (by first | assumption | exact hrfl _) ?_; (focus (first | exact want_none rfl | (simp [Region.wanted, yielded]; done))); intro r hr) | (refine wpRq_skip ?_ ?_; (focus (simp [Region.wanted, yielded]; done))) | (refine wpRq_det' ?_ (fun K hK => ?_); (focus (first | exact want_none rfl | (simp [Region.wanted, yielded]; done))); go_simp; refine hK _ ?_; clear hK K))); (refine wpRq_nil ?_); intro nq)
      go_wp2
      go_roundw
      case rel => exact ⟨k + 1, _, by omega, by go_num, rfl⟩
      case measure => simp [RowKit.intOf]; omega
    · go_wp2
      go_ret
      exact ⟨rfl, _, rfl⟩
/-- The cells of a copy of which the first k are written. -/
def partS (xs : List ByteArray) (k : Nat) : List Value := (xs.take k ++ List.replicate (xs.length - k) ByteArray.empty).map Value.string
theorem partS_length (xs : List ByteArray) (k : Nat) (hk : k ≤ xs.length) : (partS xs k).length = xs.length := by simp [partS]; omega
theorem partS_zero (xs : List ByteArray) : (madeCells #[Value.string ByteArray.empty] xs.length).toList = partS xs 0 := by
  rw [toList_madeCells_one]; simp [partS]
theorem partS_set (xs : List ByteArray) (k : Nat) (hk : k < xs.length) : (partS xs k).set k (.string xs[k]) = partS xs (k + 1) := by
  apply List.ext_getElem?
  intro j
  have h1 : (xs.take k).length = k := by simp; omega
  have h2 : (xs.take (k + 1)).length = k + 1 := by simp; omega
  simp only [partS, List.getElem?_set, List.length_map, List.length_append, List.length_replicate, h1, List.getElem?_map, List.getElem?_append, h2, List.getElem?_take, List.getElem?_replicate]
  by_cases e : k = j
  · subst e
    simp [hk]
    omega
  · rw [if_neg e]
    by_cases h3 : j < k
    · simp [h3, show j < k + 1 by omega]
    · have h4 : ¬ j < k + 1 := by omega
      simp only [h3, h4, if_false]
      by_cases h5 : j - k < xs.length - k
      · rw [if_pos h5, if_pos (by omega)]
      · rw [if_neg h5, if_neg (by omega)]
theorem partS_all (xs : List ByteArray) (k : Nat) (hk : xs.length ≤ k) : partS xs k = xs.map Value.string := by
  unfold partS; rw [List.take_of_length_le hk, show xs.length - k = 0 by omega]; simp
set_option maxHeartbeats 400000 in
theorem l_toStringS (v : Value) (xs : List ByteArray) (w : World) (hx : RS w v xs) (hl : xs.length ≤ 1048576) :
    Calls Tryd.prog 10 #[v] w fun e w' => ∃ u, e = .returned u ∧ OS w.heap.size w' u xs ∧ Below w.heap.size w w' := by
  obtain ⟨p1, cap1, rfl, hm1, hc1⟩ := hx
  have hmk := run_make_row' (P := Tryd.prog) 25 9 (.string ByteArray.empty) 16 Tryd.underlying25 (by kernel_rfl) rfl .i64 .i64 xs.length (by omega) (by omega)
  have hstart := World.ownsRow_lit (base := w.heap.size) (e := 9) (size := 1) w (madeCells #[Value.string ByteArray.empty] xs.length) xs.length (Nat.le_refl _) (by unfold maxLen; omega) (by rw [size_madeCells, Nat.mul_one])
  rw [partS_zero] at hstart
  have Hs := Lib.hid hstart
  clear hstart
  obtain ⟨B, hB⟩ : ∃ B, B = w.heap.size := ⟨_, rfl⟩
  have HB := Lib.hid hB
  go_enter Tryd.func10, Tryd.ntmps10
  go_wp2_with fail
  rw [← hB]
  clear hB hmk
  go_loopw [4] (fun i wr => ∃ k : Nat, k ≤ xs.length ∧ i = .int .i64 k ∧ wr.ownsRow B 9 1 (.slice (some ⟨B, 0, none⟩) xs.length xs.length) xs.length (partS xs k) ∧ Below B w wr) (fun i _ => xs.length - (RowKit.intOf i).toNat)
  case atStart => exact ⟨0, Nat.zero_le _, rfl, by rw [HB.out]; exact Hs.out, by rw [HB.out]; exact (by repeat (first | exact Below.refl _ _ | assumption | refine below_drewN ?_ _ | refine below_alloc (Nat.le_refl _) ?_ _ | (refine Below.setCell ?_ (by first | exact Nat.le_refl _ | (simp; done) | (simp; omega) | omega) _) | (refine below_step (Nat.le_refl _) ?_ (by assumption))))⟩
  case round =>
    obtain ⟨k, hk, rfl, hown, hb⟩ := hrel
    by_cases hlt : k < xs.length
    · obtain ⟨b, off, rfl, hcell⟩ := hc1.resolve_left (by omega)
      have h0 : w.cell? ⟨b, off + k, none⟩ = some (.string xs[k]) := hcell k _ (by simp [hlt])
      have h1 : wr.cell? ⟨b, off + k, none⟩ = some (.string xs[k]) := (hb.cell (p := ⟨b, off + k, none⟩) (by rw [HB.out]; exact block_lt_of_cell h0)).trans h0
      have h2 : wr.cell? ⟨B, k, none⟩ = some ((partS xs k)[k]'(by rw [partS_length _ _ hk]; exact hlt)) := by rw [hown.cellAt k (by omega)]; simp [partS_length _ _ hk, hlt]
      have h3 : wr.frozen? ⟨B, k, none⟩ = false := hown.frozenAt k
      have h4 := (hown.stored k (.string xs[k])).1
      rw [partS_set xs k hlt] at h4
      have H4 := Lib.hid h4
      have Hb := Lib.hid hb
      clear hcell hc1 h0 hown hb h4
      go_wp2
      go_roundw
      case rel => exact ⟨k + 1, by omega, by go_num, H4.out, Hb.out.setCell (Nat.le_refl _) _⟩
      case measure => simp [RowKit.intOf]; omega
    · have hown' : wr.ownsRow B 9 1 (.slice (some ⟨B, 0, none⟩) xs.length xs.length) xs.length (xs.map Value.string) := by rw [← partS_all xs k (by omega)]; exact hown
      go_wp2
      go_ret
      exact ⟨_, rfl, by rw [← HB.out]; exact hown', by rw [← HB.out]; exact hb⟩
end Go.Proofs.YtfhmlhocaldioaaDoor
