/- Walks: lists of cycles that are marked, and held against their marks. -/
import Derived.Test.YtmnhdheckflbdaaM
import Derived.Test.YtmnhdheckflbdaaE
namespace Go.Proofs.Ytmnhdheckflbdaa
set_option linter.unusedSimpArgs false
set_option linter.unusedVariables false
open Go.RowKit Go.Fl

/-- The mark of a cycle. -/
def markC (k : Nat) : Cyc := ⟨floatOfInt .f32 (k : Int), floatOfInt .f32 ((k : Int) + 1), ((k : Int) + 1 + 1) % 3 == 0⟩
def marksC (n k : Nat) : List Cyc := (List.range n).map fun i => markC (k + 3 * i)
theorem marksC_length (n k : Nat) : (marksC n k).length = n := by simp [marksC]
def markedToC (cs : List Cyc) (k j : Nat) : List Cyc := marksC j k ++ cs.drop j
theorem markedToC_length (cs : List Cyc) (k j : Nat) (hj : j ≤ cs.length) : (markedToC cs k j).length = cs.length := by simp [markedToC, marksC_length]; omega
theorem markedToC_set (cs : List Cyc) (k j : Nat) (hj : j < cs.length) : (markedToC cs k j).set j (markC (k + 3 * j)) = markedToC cs k (j + 1) := by
  apply List.ext_getElem?
  intro i
  simp only [markedToC, marksC, List.getElem?_set, List.length_append, List.length_map, List.length_range, List.length_drop, List.getElem?_append, List.getElem?_map, List.getElem?_drop]
  by_cases e : j = i
  · subst e
    simp
    omega
  · rw [if_neg e]
    by_cases h : i < j
    · simp [h, show i < j + 1 by omega]
    · rw [if_neg h, if_neg (by omega)]
      congr 1
      omega
theorem markedToC_zero (cs : List Cyc) (k : Nat) : markedToC cs k 0 = cs := by simp [markedToC, marksC]
theorem markedToC_all (cs : List Cyc) (k j : Nat) (hj : cs.length ≤ j) (hj2 : j ≤ cs.length) : markedToC cs k j = marksC cs.length k := by
  obtain rfl : j = cs.length := by omega
  simp [markedToC]
theorem grown_trans {w w1 w2 : World} {o : Option Nat} (h : w.grownBy w1 o) (h2 : w1.grownBy w2 o) : w.grownBy w2 o :=
  ⟨h2.os.trans h.os, h2.tape.trans h.tape, h2.output.trans h.output, Nat.le_trans h.size h2.size, fun i hi hne => (h2.block i (Nat.lt_of_lt_of_le hi h.size) hne).trans (h.block i hi hne)⟩
set_option maxHeartbeats 1000000 in
theorem l_markCycleS (u : Value) (cs : List Cyc) (k0 : Nat) (K : Int) (hK : K = (k0 : Int)) (B : Nat) (w : World) (ho : OC B w u cs) (hl : cs.length ≤ 1048576) (hk : k0 ≤ 100000000) :
    Calls Try.prog 18 #[u, .int .i64 K] w fun e w' => e = .returned (.int .i64 ((k0 + 3 * cs.length : Nat) : Int)) ∧ OC B w' u (marksC cs.length k0) ∧ w.grownBy w' u.ownBlock := by
  subst hK
  obtain ⟨hlen, hcase⟩ := id ho
  have HO := Lib.hid ho
  clear ho
  by_cases h0 : cs.length = 0
  · have hxs : cs = [] := List.eq_nil_of_length_eq_zero h0
    subst hxs
    rcases hcase with ⟨rfl, -⟩ | ⟨g, cap, cur, rfl, -⟩
    all_goals
      go_enter Try.func18, Try.ntmps18
      go_wp2_with fail
      refine wp_loop_rounds 1 ?_
      rw [rounds_succ]
      go_wp2
      go_ret
      exact ⟨by simp, HO.out, ⟨rfl, rfl, rfl, Nat.le_refl _, fun _ _ _ => rfl⟩⟩
  · rcases hcase with ⟨rfl, h⟩ | ⟨g, cap, cur, rfl, -⟩
    · exact absurd h h0
    clear hlen
    go_enter Try.func18, Try.ntmps18
    go_wp2_with fail
    go_loopw [1, 5] (fun t i wr => ∃ j : Nat, j ≤ cs.length ∧ i = .int .i64 j ∧ t = .int .i64 ((k0 + 3 * j : Nat) : Int) ∧ wr.ownsRow B 34 3 (.slice (some ⟨g, 0, none⟩) cs.length cap) cs.length (cycCells (markedToC cs k0 j)) ∧ w.grownBy wr (some g)) (fun _ i _ => cs.length - (intOf i).toNat)
    case atStart => exact ⟨0, Nat.zero_le _, rfl, by simp, by rw [markedToC_zero]; exact HO.out, ⟨rfl, rfl, rfl, Nat.le_refl _, fun _ _ _ => rfl⟩⟩
    case round =>
      obtain ⟨j, hj, rfl, rfl, hown, hg⟩ := hrel
      by_cases hlt : j < cs.length
      · obtain ⟨e1, e2, e3⟩ := cycCells_at (markedToC cs k0 j) j (by rw [markedToC_length _ _ _ hj]; exact hlt)
        have d1 := (hown.cellAt (j * 3) (by omega)).trans e1
        have d2 := (hown.cellAt (j * 3 + 1) (by omega)).trans e2
        have d3 := (hown.cellAt (j * 3 + 2) (by omega)).trans e3
        have f1 := hown.frozenAt (j * 3)
        have f2 := hown.frozenAt (j * 3 + 1)
        have f3 := hown.frozenAt (j * 3 + 2)
        have s1 := hown.stored (j * 3) (.float .f32 (markC (k0 + 3 * j)).lo)
        have s2 := s1.1.stored (j * 3 + 1) (.float .f32 (markC (k0 + 3 * j)).hi)
        have s3 := s2.1.stored (j * 3 + 2) (.bool (markC (k0 + 3 * j)).wh)
        rw [cycCells_set (markedToC cs k0 j) j (markC (k0 + 3 * j)) (by rw [markedToC_length _ _ _ hj]; exact hlt), markedToC_set cs k0 j hlt] at s3
        have H3 := Lib.hid s3.1
        have HG := Lib.hid (grown_trans (grown_trans (grown_trans hg s1.2) s2.2) s3.2)
        unfold markC at H3 HG
        simp only at H3 HG
        push_cast at H3 HG
        clear hown hg s1 s2 s3 e1 e2 e3
        generalize (markedToC cs k0 j)[j]'(by rw [markedToC_length _ _ _ hj]; exact hlt) = cc at d1 d2 d3
        obtain ⟨lo, hi, wh⟩ := cc
        simp only at d1 d2 d3
        go_wp2
        go_roundw
        case rel => exact ⟨j + 1, by omega, by go_num, by go_num, H3.out, HG.out⟩
        case measure => simp [intOf]; omega
      · have hown' := hown
        rw [markedToC_all cs k0 j (by omega) hj] at hown'
        obtain rfl : j = cs.length := by omega
        have Ho' : Hid (OC B wr (.slice (some ⟨g, 0, none⟩) cs.length cap) (marksC cs.length k0)) := by show wr.ownsRow _ _ _ _ _ _; rw [marksC_length]; exact hown'
        clear hown hown'
        go_wp2
        go_ret
        exact ⟨rfl, Ho'.out, hg⟩
set_option maxHeartbeats 1000000 in
theorem l_heldCycleS (u : Value) (n : Nat) (k0 : Nat) (K : Int) (hK : K = (k0 : Int)) (w : World) (hx : RC w u (marksC n k0)) (hl : n ≤ 1048576) (hk : k0 ≤ 100000000) :
    Calls Try.prog 19 #[u, .int .i64 K] w fun e w' => e = .returned (.int .i64 ((k0 + 3 * n : Nat) : Int)) ∧ ∃ n, w' = w.drewN n := by
  subst hK
  obtain ⟨p1, cap1, rfl, hm1, hc1⟩ := hx
  rw [marksC_length] at hm1 hc1
  have hml := marksC_length n k0
  have HML := Lib.hid hml
  rw [hml]
  clear hml
  go_enter Try.func19, Try.ntmps19
  go_wp2_with fail
  go_loop [1, 5] (fun t i => ∃ j : Nat, j ≤ n ∧ i = .int .i64 j ∧ t = .int .i64 ((k0 + 3 * j : Nat) : Int)) (fun _ i => n - (intOf i).toNat)
  case atStart => exact ⟨0, Nat.zero_le _, rfl, by simp⟩
  case round =>
    obtain ⟨j, hj, rfl, rfl⟩ := hrel
    by_cases hlt : j < n
    · obtain ⟨b, off, rfl, hcell⟩ := hc1.resolve_left (by omega)
      obtain ⟨h1, h2, h3⟩ := CycAt_of hcell j (by rw [HML.out]; exact hlt)
      have he : (marksC n k0)[j]'(by rw [HML.out]; exact hlt) = markC (k0 + 3 * j) := by simp [marksC]
      rw [he] at h1 h2 h3
      unfold markC at h1 h2 h3
      simp only at h1 h2 h3
      push_cast at h1 h2 h3
      have i1 : FloatKind.f32.format.order (floatOfInt .f32 ((k0 : Int) + 3 * (j : Int))) (floatOfInt .f32 ((k0 : Int) + 3 * (j : Int))) = some .eq := order_self (isNan_int _ _)
      have i2 : FloatKind.f32.format.order (floatOfInt .f32 ((k0 : Int) + 3 * (j : Int) + 1)) (floatOfInt .f32 ((k0 : Int) + 3 * (j : Int) + 1)) = some .eq := order_self (isNan_int _ _)
      clear hcell hc1 he
      go_wp2
      go_round
      case rel => exact ⟨j + 1, by omega, by go_num, by go_num⟩
      case measure => simp [intOf]; omega
    · obtain rfl : j = n := by omega
      go_wp2
      go_ret
      exact ⟨rfl, 0, rfl⟩
end Go.Proofs.Ytmnhdheckflbdaa
