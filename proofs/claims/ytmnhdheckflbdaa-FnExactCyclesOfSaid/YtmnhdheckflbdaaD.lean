/- Walks: loads. -/
import Derived.Test.YtmnhdheckflbdaaC
namespace Go.Proofs.Ytmnhdheckflbdaa
set_option linter.unusedSimpArgs false
set_option linter.unusedVariables false
open Go.RowKit Go.Fl

def loadsOk (xs : List Nat) : Bool := decide (1 ≤ xs.length) && decide (xs.length ≤ 64) && finAll xs
theorem finAll_of {xs : List Nat} (h : noneYet (fun x => !fin .f32 x) xs xs.length) : finAll xs = true := by
  unfold finAll
  rw [List.all_eq_true]
  intro x hx
  obtain ⟨j, hj, rfl⟩ := List.getElem_of_mem hx
  simpa using h j hj hj
theorem not_finAll {xs : List Nat} {k : Nat} (hk : k < xs.length) (h : fin .f32 xs[k] = false) : finAll xs = false := by
  unfold finAll
  rw [List.all_eq_false]
  exact ⟨xs[k], List.getElem_mem hk, by rw [h]; decide⟩
set_option maxHeartbeats 400000 in
theorem s_l07Loads (v : Value) (xs : List Nat) (w : World) (hx : RF w v xs) : Calls Try.prog 37 #[v] w fun e w' => e = .returned (.bool (loadsOk xs)) ∧ ∃ n, w' = w.drewN n := by
  obtain ⟨p1, cap1, rfl, hm1, hc1⟩ := hx
  go_enter Try.func37, Try.ntmps37
  go_wp2_with fail
  go_loopw [6] (fun i wr => ∃ k n : Nat, k ≤ xs.length ∧ i = .int .i64 k ∧ wr = w.drewN n ∧ noneYet (fun x => !fin .f32 x) xs k) (fun i _ => xs.length - (intOf i).toNat)
  case atStart => exact ⟨0, 0, Nat.zero_le _, rfl, rfl, noneYet_zero _ _⟩
  case round =>
    obtain ⟨k, n, hk, rfl, rfl, hn⟩ := hrel
    by_cases hlt : k < xs.length
    · obtain ⟨b, off, rfl, hcell⟩ := hc1.resolve_left (by omega)
      have h1 : w.cell? ⟨b, off + k, none⟩ = some (.float .f32 xs[k]) := hcell k _ (by simp [hlt])
      clear hcell hc1
      cases hp : fin .f32 xs[k]
      all_goals
        have HP := Lib.hid hp
        clear hp
        go_wp2_with (go_at_call 51; refine (s_l01Finite _ _).mono ?_; rintro e w' ⟨rfl, m, rfl⟩; rw [HP.out])
      · go_ret
        exact ⟨by rw [show loadsOk xs = false by unfold loadsOk; rw [not_finAll hlt HP.out]; simp]; rfl, _, rfl⟩
      · go_roundw
        case rel => exact ⟨k + 1, _, by omega, by go_num, rfl, noneYet_succ hn hlt (by simp [HP.out])⟩
        case measure => simp [intOf]; omega
    · obtain rfl : k = xs.length := by omega
      have hf := Lib.hid (finAll_of hn)
      by_cases hl1 : 1 ≤ xs.length
      · by_cases hl2 : xs.length ≤ 64
        all_goals
          go_wp2
          go_ret
          exact ⟨by simp [loadsOk, hf.out, hl1, hl2]; omega, _, rfl⟩
      · go_wp2
        go_ret
        exact ⟨by simp [loadsOk, hl1], _, rfl⟩
theorem i_areLoads (v : Value) (xs : List Nat) (w : World) (hx : RF w v xs) : Calls Try.prog 26 #[v] w fun e w' => e = .returned (.bool (loadsOk xs)) ∧ ∃ n, w' = w.drewN n := by
  have hx' := hx
  obtain ⟨p1, cap1, rfl, hm1, hc1⟩ := hx'
  by_cases hl1 : 1 ≤ xs.length
  · by_cases hl2 : xs.length ≤ 64
    all_goals
      go_enter Try.func26, Try.ntmps26
      go_wp2_with (go_at_call 32; refine (i_areFinite _ xs _ hx).mono ?_; rintro e w' ⟨rfl, n, rfl⟩)
      go_ret
      exact ⟨by simp [loadsOk, hl1, hl2], by first | exact ⟨_, rfl⟩ | exact ⟨0, rfl⟩⟩
  · go_enter Try.func26, Try.ntmps26
    go_wp2
    go_ret
    exact ⟨by simp [loadsOk, hl1], 0, rfl⟩
/-- How many loads are at least so much. -/
def atLeast (xs : List Nat) (l : Nat) : Nat := xs.countP fun x => fge .f32 x l
theorem atLeast_take (xs : List Nat) (l k : Nat) (hk : k < xs.length) : atLeast (xs.take (k + 1)) l = atLeast (xs.take k) l + if fge .f32 xs[k] l then 1 else 0 := by
  unfold atLeast
  rw [List.take_succ_eq_append_getElem hk, List.countP_append]
  simp [List.countP_cons]
theorem atLeast_le (xs : List Nat) (l k : Nat) : atLeast (xs.take k) l ≤ k := by
  unfold atLeast
  exact Nat.le_trans List.countP_le_length (List.length_take_le _ _)
def exceed (xs : List Nat) (l : Nat) : Nat := fa .quo .f32 (floatOfInt .f32 (atLeast xs l)) (floatOfInt .f32 xs.length)
/-- A number and whether the function succeeds. -/
def NumB (good : Bool) (S : Nat) (e : Ending) : Prop := ∃ r, e = .returned (.tuple #[.float .f32 r, .bool good]) ∧ cn .f32 r = cn .f32 (if good then S else 0)
/-- The sum from left to right. -/
def fsum (xs : List Nat) : Nat := xs.foldl (fun a x => fa .add .f32 a x) 0
theorem fsum_take (xs : List Nat) (k : Nat) (hk : k < xs.length) : fsum (xs.take (k + 1)) = fa .add .f32 (fsum (xs.take k)) xs[k] := by
  unfold fsum
  rw [List.take_succ_eq_append_getElem hk, List.foldl_append]
  rfl
theorem cn_fsum (xs : List Nat) : cn .f32 (fsum xs) = fsum xs := by
  rcases List.eq_nil_or_concat xs with rfl | ⟨ys, y, rfl⟩
  · rfl
  · unfold fsum; rw [List.concat_eq_append, List.foldl_append]; exact cn_fa _ _ _ _
def fmean (xs : List Nat) : Nat := fa .quo .f32 (fsum xs) (floatOfInt .f32 xs.length)
end Go.Proofs.Ytmnhdheckflbdaa
