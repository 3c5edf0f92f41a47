/- Walks: lists of numbers that are marked, and held against their marks. -/
import Derived.Test.YtmpmnhnobgidoaaC
namespace Go.Proofs.Ytmpmnhnobgidoaa
set_option linter.unusedSimpArgs false
set_option linter.unusedVariables false
open Go.RowKit Go.Fl

/-- Two slices of which no block is the other's. -/
def Dis (u v : Value) : Prop := ∀ k, u.ownBlock = some k → v.ownBlock ≠ some k
theorem Dis.symm {u v : Value} (h : Dis u v) : Dis v u := fun k hv hu => h k hu hv
theorem dis_of {B S : Nat} {w w' : World} {u v : Value} {n m : Nat} {cs ds : List Value} {e f : TypeId} {s t : Nat} (hu : w.ownsRow B e s u n cs) (hS : w.heap.size ≤ S) (hv : w'.ownsRow S f t v m ds) : Dis u v := fun k h1 h2 => by
  have := (hu.lt k h1).2
  have := (hv.lt k h2).1
  omega
theorem kept_dis {B : Nat} {w w' : World} {u v : Value} {n : Nat} {cs : List Value} {e : TypeId} {s : Nat} (h : w.ownsRow B e s v n cs) (hg : w.grownBy w' u.ownBlock) (hd : Dis u v) : w'.ownsRow B e s v n cs := by
  refine h.kept hg ?_
  cases hu : u.ownBlock with
  | none => cases v.ownBlock <;> simp
  | some k => right; exact hd k hu
theorem grown_below {B : Nat} {w w' : World} {u : Value} {n : Nat} {cs : List Value} {e : TypeId} {s S : Nat} (h : w.ownsRow S e s u n cs) (hg : w.grownBy w' u.ownBlock) (hB : B ≤ w.heap.size) (hS : B ≤ S) : Below B w w' :=
  (Below.refl B w).grown hg hB fun k hk => Nat.le_trans hS (h.lt k hk).1

/-- The marks from k on. -/
def marks (n : Nat) (k : Nat) : List Nat := (List.range n).map fun (i : Nat) => floatOfInt .f32 ((k + i : Nat) : Int)
theorem marks_length (n k : Nat) : (marks n k).length = n := by simp [marks]
/-- What is marked up to j. -/
def markedTo (xs : List Nat) (k j : Nat) : List Nat := marks j k ++ xs.drop j
theorem markedTo_length (xs : List Nat) (k j : Nat) (hj : j ≤ xs.length) : (markedTo xs k j).length = xs.length := by simp [markedTo, marks_length]; omega
theorem markedTo_set (xs : List Nat) (k j : Nat) (hj : j < xs.length) : ((markedTo xs k j).map (Value.float .f32)).set j (.float .f32 (floatOfInt .f32 ((k + j : Nat) : Int))) = (markedTo xs k (j + 1)).map (Value.float .f32) := by
  rw [← List.map_set]
  congr 1
  apply List.ext_getElem?
  intro i
  simp only [markedTo, marks, List.getElem?_set, List.length_append, List.length_map, List.length_range, List.length_drop, List.getElem?_append, List.getElem?_map, List.getElem?_drop]
  by_cases e : j = i
  · subst e
    simp
    omega
  · rw [if_neg e]
    by_cases h : i < j
    · simp [h, show i < j + 1 by omega]
    · rw [if_neg h, if_neg (by omega)]
      congr 1
      omega
theorem markedTo_zero (xs : List Nat) (k : Nat) : markedTo xs k 0 = xs := by simp [markedTo, marks]
theorem markedTo_all (xs : List Nat) (k j : Nat) (hj : xs.length ≤ j) (hj2 : j ≤ xs.length) : markedTo xs k j = marks xs.length k := by
  obtain rfl : j = xs.length := by omega
  simp [markedTo]
theorem isNan_int (k : FloatKind) (n : Int) : isNan k (floatOfInt k n) = false := by
  unfold isNan floatOfInt FloatKind.nearest FloatKind.encode
  exact write_notNaN _ rfl
set_option maxHeartbeats 400000 in
theorem l_markFloat32S (u : Value) (xs : List Nat) (k0 : Nat) (K : Int) (hK : K = (k0 : Int)) (B : Nat) (w : World) (ho : OF B w u xs) (hl : xs.length ≤ 1048576) (hk : k0 ≤ 100000000) :
    Calls Try.prog 43 #[u, .int .i64 K] w fun e w' => e = .returned (.int .i64 ((k0 + xs.length : Nat) : Int)) ∧ OF B w' u (marks xs.length k0) ∧ w.grownBy w' u.ownBlock := by
  subst hK
  obtain ⟨hlen, hcase⟩ := id ho
  have HO := Lib.hid ho
  clear ho
  by_cases h0 : xs.length = 0
  · have hxs : xs = [] := List.eq_nil_of_length_eq_zero h0
    subst hxs
    rcases hcase with ⟨rfl, -⟩ | ⟨g, cap, cur, rfl, -⟩
    all_goals
      go_enter Try.func43, Try.ntmps43
      go_wp2_with fail
      refine wp_loop_rounds 1 ?_
      rw [rounds_succ]
      go_wp2
      go_ret
      exact ⟨by simp, HO.out, ⟨rfl, rfl, rfl, Nat.le_refl _, fun _ _ _ => rfl⟩⟩
  · rcases hcase with ⟨rfl, h⟩ | ⟨g, cap, cur, rfl, -⟩
    · exact absurd h h0
    clear hlen
    go_enter Try.func43, Try.ntmps43
    go_wp2_with fail
    go_loopw [1, 5] (fun t i wr => ∃ j : Nat, j ≤ xs.length ∧ i = .int .i64 j ∧ t = .int .i64 ((k0 + j : Nat) : Int) ∧ wr.ownsRow B 26 1 (.slice (some ⟨g, 0, none⟩) xs.length cap) xs.length ((markedTo xs k0 j).map (Value.float .f32)) ∧ w.grownBy wr (some g)) (fun _ i _ => xs.length - (intOf i).toNat)
    case atStart => exact ⟨0, Nat.zero_le _, rfl, by simp, by rw [markedTo_zero]; exact HO.out, ⟨rfl, rfl, rfl, Nat.le_refl _, fun _ _ _ => rfl⟩⟩
    case round =>
      obtain ⟨j, hj, rfl, rfl, hown, hg⟩ := hrel
      by_cases hlt : j < xs.length
      · have h2 : wr.cell? ⟨g, j, none⟩ = some (.float .f32 ((markedTo xs k0 j)[j]'(by rw [markedTo_length _ _ _ hj]; exact hlt))) := by rw [hown.cellAt j (by omega)]; simp [markedTo_length _ _ _ hj, hlt]
        have h3 : wr.frozen? ⟨g, j, none⟩ = false := hown.frozenAt j
        have h4 := hown.stored j (.float .f32 (floatOfInt .f32 ((k0 + j : Nat) : Int)))
        rw [markedTo_set xs k0 j hlt] at h4
        have H4 := Lib.hid h4
        have Hg := Lib.hid hg
        clear hown hg h4
        go_wp2
        go_roundw
        case rel => exact ⟨j + 1, by omega, by go_num, by go_num, H4.out.1, ⟨H4.out.2.os.trans Hg.out.os, H4.out.2.tape.trans Hg.out.tape, H4.out.2.output.trans Hg.out.output, Nat.le_trans Hg.out.size H4.out.2.size, fun i hi hne => (H4.out.2.block i (Nat.lt_of_lt_of_le hi Hg.out.size) hne).trans (Hg.out.block i hi hne)⟩⟩
        case measure => simp [intOf]; omega
      · have hown' := hown
        rw [markedTo_all xs k0 j (by omega) hj] at hown'
        obtain rfl : j = xs.length := by omega
        have Ho' : Hid (OF B wr (.slice (some ⟨g, 0, none⟩) xs.length cap) (marks xs.length k0)) := by show wr.ownsRow _ _ _ _ _ _; rw [marks_length]; exact hown'
        clear hown hown'
        go_wp2
        go_ret
        exact ⟨rfl, Ho'.out, hg⟩
end Go.Proofs.Ytmpmnhnobgidoaa
