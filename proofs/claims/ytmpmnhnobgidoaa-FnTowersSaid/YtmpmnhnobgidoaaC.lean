/- Walks: lists of 32-bit numbers are copied and compared. -/
import Derived.Test.YtmpmnhnobgidoaaB
import Derived.Deep.OwnRows
namespace Go.Proofs.Ytmpmnhnobgidoaa
set_option linter.unusedSimpArgs false
set_option linter.unusedVariables false
open Go.RowKit Go.Fl

/-- Two lists of numbers that differ in the bits of not-a-numbers at most. -/
def FEq (xs ys : List Nat) : Prop := xs.map (cn .f32) = ys.map (cn .f32)
theorem FEq.refl (xs : List Nat) : FEq xs xs := rfl
theorem FEq.symm {xs ys : List Nat} (h : FEq xs ys) : FEq ys xs := Eq.symm h
theorem FEq.trans {xs ys zs : List Nat} (h : FEq xs ys) (k : FEq ys zs) : FEq xs zs := Eq.trans h k
theorem FEq.length {xs ys : List Nat} (h : FEq xs ys) : xs.length = ys.length := by simpa using congrArg List.length h
theorem FEq.get {xs ys : List Nat} (h : FEq xs ys) (j : Nat) (h1 : j < xs.length) (h2 : j < ys.length) : cn .f32 xs[j] = cn .f32 ys[j] := by
  have : (xs.map (cn .f32))[j]? = (ys.map (cn .f32))[j]? := by rw [h]
  simpa [h1, h2] using this

set_option maxHeartbeats 400000 in
theorem l_eqFloat32S (v v' : Value) (xs ys : List Nat) (w : World) (hx : RF w v xs) (hy : RF w v' ys) (he : FEq xs ys) :
    Calls Try.prog 42 #[v, v'] w fun e w' => e = .returned (.bool true) ∧ ∃ n, w' = w.drewN n := by
  obtain ⟨p1, cap1, rfl, hm1, hc1⟩ := hx
  obtain ⟨p2, cap2, rfl, hm2, hc2⟩ := hy
  have hl := he.length
  have Hl := Lib.hid hl
  have hne : (((xs.length : Nat) : Int) == ((ys.length : Nat) : Int)) = true := by rw [hl]; simp
  have hne2 : (((xs.length : Nat) : Int) != ((ys.length : Nat) : Int)) = false := by rw [hl]; simp
  clear hl
  go_enter Try.func42, Try.ntmps42
  go_wp2_with fail
  clear hne hne2
  go_loopw [5] (fun i wr => ∃ k n : Nat, k ≤ xs.length ∧ i = .int .i64 k ∧ wr = w.drewN n) (fun i _ => xs.length - (intOf i).toNat)
  case atStart => exact ⟨0, 0, Nat.zero_le _, rfl, rfl⟩
  case round =>
    obtain ⟨k, n, hk, rfl, rfl⟩ := hrel
    by_cases hlt : k < xs.length
    · have hlt2 : k < ys.length := by rw [← Hl.out]; exact hlt
      obtain ⟨b1, o1, rfl, hcell1⟩ := hc1.resolve_left (by omega)
      obtain ⟨b2, o2, rfl, hcell2⟩ := hc2.resolve_left (by omega)
      have h1 : w.cell? ⟨b1, o1 + k, none⟩ = some (.float .f32 xs[k]) := hcell1 k _ (by simp [hlt])
      have h2 : w.cell? ⟨b2, o2 + k, none⟩ = some (.float .f32 ys[k]) := hcell2 k _ (by simp [hlt2])
      have hcn := Lib.hid (he.get k hlt hlt2)
      have hcn2 := hrfl (cn .f32 ys[k])
      clear hcell1 hcell2 hc1 hc2
      go_wp2_with fail
      ((refine wp_region_rq_lit (fun _ _ u => u = .bool true) (by kernel_rfl) (by kernel_rfl) ?_); (repeat (first | (refine wpRq_fa rfl rfl ?_ rfl rfl (by first | assumption | exact hrfl _) (by first | assumption | exact hrfl _) ?_; (focus (first | exact want_none rfl | (simp [Region.wanted, yielded]; done))); intro r hr) | (refine wpRq_widen (dst := 37) rfl ?_ rfl (by kernel_rfl) Try.underlying37 (by first | assumption | exact hrfl _) ?_; (focus (first | exact want_none rfl | (simp [Region.wanted, yielded]; done))); intro r hr) | (refine wpRq_call2 (f := 80) (X := .float .f64 _) (Y := .float .f64 _) rfl ?_ rfl rfl (run_enter Try.func80 (by kernel_rfl) rfl) (fun n => (l_sameFloat _ _ (Eq.trans (Hid.out (by assumption)) (Eq.symm (Hid.out (by assumption)))) _).mono (fun e w' ⟨he, hn⟩ => ⟨_, he, rfl, hn⟩)) ?_; (focus (first | exact want_none rfl | (simp [Region.wanted, yielded]; done))); intro v hv; subst hv) | (refine wpRq_skip ?_ ?_; (focus (simp [Region.wanted, yielded]; done))) | (refine wpRq_det' ?_ (fun K hK => ?_); (focus (first | exact want_none rfl | (simp [Region.wanted, yielded]; done))); go_simp; refine hK _ ?_; clear hK K))); (refine wpRq_nil ?_); intro nq)
      go_wp2
      go_roundw
      case rel => exact ⟨k + 1, _, by omega, by go_num, rfl⟩
      case measure => simp [intOf]; omega
    · go_wp2
      go_ret
      exact ⟨rfl, _, rfl⟩
/-- The cells of a copy of which the first k are written. -/
def part (xs : List Nat) (k : Nat) : List Value := (xs.take k ++ List.replicate (xs.length - k) 0).map (Value.float .f32)
theorem part_length (xs : List Nat) (k : Nat) (hk : k ≤ xs.length) : (part xs k).length = xs.length := by simp [part]; omega
theorem part_zero (xs : List Nat) : (madeCells #[Value.float .f32 0] xs.length).toList = part xs 0 := by
  rw [toList_madeCells_one]; simp [part]
theorem part_set (xs : List Nat) (k : Nat) (hk : k < xs.length) : (part xs k).set k (.float .f32 xs[k]) = part xs (k + 1) := by
  apply List.ext_getElem?
  intro j
  have h1 : (xs.take k).length = k := by simp; omega
  have h2 : (xs.take (k + 1)).length = k + 1 := by simp; omega
  simp only [part, List.getElem?_set, List.length_map, List.length_append, List.length_replicate, h1, List.getElem?_map, List.getElem?_append, h2, List.getElem?_take, List.getElem?_replicate]
  by_cases e : k = j
  · subst e
    simp [hk]
    omega
  · rw [if_neg e]
    by_cases h3 : j < k
    · simp [h3, show j < k + 1 by omega]
    · have h4 : ¬ j < k + 1 := by omega
      simp only [h3, h4, if_false]
      by_cases h5 : j - k < xs.length - k
      · rw [if_pos h5, if_pos (by omega)]
      · rw [if_neg h5, if_neg (by omega)]
theorem part_all (xs : List Nat) (k : Nat) (hk : xs.length ≤ k) : part xs k = xs.map (Value.float .f32) := by
  unfold part; rw [List.take_of_length_le hk, show xs.length - k = 0 by omega]; simp

/-- A slice of numbers of the call's own. -/
def OF (B : Nat) (w : World) (v : Value) (xs : List Nat) : Prop := w.ownsRow B 26 1 v xs.length (xs.map (Value.float .f32))
theorem Sl_of_own {B : Nat} {w : World} {v : Value} {n : Nat} {cs : List Value} {e : TypeId} {size : Nat} (h : w.ownsRow B e size v n cs) (hn : n ≤ 281474976710656) : Sl w v n cs := by
  obtain ⟨hlen, h⟩ := h
  rcases h with ⟨rfl, rfl⟩ | ⟨g, cap, cur, rfl, hb, hg, hnc, hcm, hcs, htake⟩
  · exact ⟨_, _, rfl, hn, .inl rfl⟩
  · refine ⟨_, _, rfl, hn, .inr ⟨g, 0, rfl, fun j u hj => ?_⟩⟩
    rw [Nat.zero_add, cell_of_row w g j cur e (0, 0) hg]
    rw [← htake, List.getElem?_take] at hj
    split at hj
    · simpa using hj
    · cases hj
theorem RF_of_own {B : Nat} {w : World} {v : Value} {xs : List Nat} (h : OF B w v xs) (hn : xs.length ≤ 281474976710656) : RF w v xs := Sl_of_own h hn
theorem ownsRow_below {B : Nat} {w w' : World} {v : Value} {n : Nat} {cs : List Value} {e : TypeId} {size : Nat} (h : w.ownsRow B e size v n cs) (hb : Below w.heap.size w w') : w'.ownsRow B e size v n cs := by
  obtain ⟨hlen, h⟩ := h
  refine ⟨hlen, ?_⟩
  rcases h with h | ⟨g, cap, cur, rfl, hB, hg, rest⟩
  · exact .inl h
  · exact .inr ⟨g, cap, cur, rfl, hB, (hb.block g (lt_of_block hg)).trans hg, rest⟩
set_option maxHeartbeats 400000 in
theorem l_toFloat32S (v : Value) (xs : List Nat) (w : World) (hx : RF w v xs) (hl : xs.length ≤ 1048576) :
    Calls Try.prog 40 #[v] w fun e w' => ∃ u, e = .returned u ∧ OF w.heap.size w' u xs ∧ Below w.heap.size w w' := by
  obtain ⟨p1, cap1, rfl, hm1, hc1⟩ := hx
  have hmk := run_make_row' (P := Try.prog) 24 26 (.float .f32 0) 4 Try.underlying24 (by kernel_rfl) rfl .i64 .i64 xs.length (by omega) (by omega)
  have hstart := World.ownsRow_lit (base := w.heap.size) (e := 26) (size := 1) w (madeCells #[Value.float .f32 0] xs.length) xs.length (Nat.le_refl _) (by unfold maxLen; omega) (by rw [size_madeCells, Nat.mul_one])
  rw [part_zero] at hstart
  have Hs := Lib.hid hstart
  clear hstart
  obtain ⟨B, hB⟩ : ∃ B, B = w.heap.size := ⟨_, rfl⟩
  have HB := Lib.hid hB
  go_enter Try.func40, Try.ntmps40
  go_wp2_with fail
  rw [← hB]
  clear hB hmk
  go_loopw [4] (fun i wr => ∃ k : Nat, k ≤ xs.length ∧ i = .int .i64 k ∧ wr.ownsRow B 26 1 (.slice (some ⟨B, 0, none⟩) xs.length xs.length) xs.length (part xs k) ∧ Below B w wr) (fun i _ => xs.length - (intOf i).toNat)
  case atStart => exact ⟨0, Nat.zero_le _, rfl, by rw [HB.out]; exact Hs.out, by rw [HB.out]; exact (by repeat (first | exact Below.refl _ _ | assumption | refine below_drewN ?_ _ | refine below_alloc (Nat.le_refl _) ?_ _ | (refine Below.setCell ?_ (by first | exact Nat.le_refl _ | (simp; done) | (simp; omega) | omega) _) | (refine below_step (Nat.le_refl _) ?_ (by assumption))))⟩
  case round =>
    obtain ⟨k, hk, rfl, hown, hb⟩ := hrel
    by_cases hlt : k < xs.length
    · obtain ⟨b, off, rfl, hcell⟩ := hc1.resolve_left (by omega)
      have h0 : w.cell? ⟨b, off + k, none⟩ = some (.float .f32 xs[k]) := hcell k _ (by simp [hlt])
      have h1 : wr.cell? ⟨b, off + k, none⟩ = some (.float .f32 xs[k]) := (hb.cell (p := ⟨b, off + k, none⟩) (by rw [HB.out]; exact block_lt_of_cell h0)).trans h0
      have h2 : wr.cell? ⟨B, k, none⟩ = some ((part xs k)[k]'(by rw [part_length _ _ hk]; exact hlt)) := by rw [hown.cellAt k (by omega)]; simp [part_length _ _ hk, hlt]
      have h3 : wr.frozen? ⟨B, k, none⟩ = false := hown.frozenAt k
      have h4 := (hown.stored k (.float .f32 xs[k])).1
      rw [part_set xs k hlt] at h4
      have H4 := Lib.hid h4
      have Hb := Lib.hid hb
      clear hcell hc1 h0 hown hb h4
      go_wp2
      go_roundw
      case rel => exact ⟨k + 1, by omega, by go_num, H4.out, Hb.out.setCell (Nat.le_refl _) _⟩
      case measure => simp [intOf]; omega
    · have hown' : wr.ownsRow B 26 1 (.slice (some ⟨B, 0, none⟩) xs.length xs.length) xs.length (xs.map (Value.float .f32)) := by rw [← part_all xs k (by omega)]; exact hown
      go_wp2
      go_ret
      exact ⟨_, rfl, by rw [← HB.out]; exact hown', by rw [← HB.out]; exact hb⟩
/-- Bits of 32. -/
def Bd (xs : List Nat) : Prop := ∀ x ∈ xs, x < 4294967296
theorem quiet_below {w w' : World} (h : ∃ n, w' = w.drewN n) : Below w.heap.size w w' := by
  obtain ⟨n, rfl⟩ := h
  exact below_drewN (Below.refl _ _) n
theorem OF_below {B : Nat} {w w' : World} {v : Value} {xs : List Nat} (h : OF B w v xs) (hb : Below w.heap.size w w') : OF B w' v xs := ownsRow_below h hb
theorem RF_below {w w' : World} {v : Value} {xs : List Nat} (h : RF w v xs) (hb : Below w.heap.size w w') : RF w' v xs := RF.below h hb (Nat.le_refl _)
theorem RF_below_alloc {w w' : World} {v : Value} {xs : List Nat} {o : Obj} (h : RF w v xs) (hb : Below (w.alloc o).heap.size (w.alloc o) w') : RF w' v xs := RF_below (h.alloc o) hb
end Go.Proofs.Ytmpmnhnobgidoaa
