/- Walks: loads. -/
import Derived.Test.YtmpmnhnobgidoaaC
namespace Go.Proofs.Ytmpmnhnobgidoaa
set_option linter.unusedSimpArgs false
set_option linter.unusedVariables false
open Go.RowKit Go.Fl

def loadsOk (xs : List Nat) : Bool := decide (1 ≤ xs.length) && decide (xs.length ≤ 64) && finAll xs
theorem finAll_of {xs : List Nat} (h : noneYet (fun x => !fin .f32 x) xs xs.length) : finAll xs = true := by
  unfold finAll
  rw [List.all_eq_true]
  intro x hx
  obtain ⟨j, hj, rfl⟩ := List.getElem_of_mem hx
  simpa using h j hj hj
theorem not_finAll {xs : List Nat} {k : Nat} (hk : k < xs.length) (h : fin .f32 xs[k] = false) : finAll xs = false := by
  unfold finAll
  rw [List.all_eq_false]
  exact ⟨xs[k], List.getElem_mem hk, by rw [h]; decide⟩
set_option maxHeartbeats 400000 in
theorem s_l07Loads (v : Value) (xs : List Nat) (w : World) (hx : RF w v xs) : Calls Try.prog 55 #[v] w fun e w' => e = .returned (.bool (loadsOk xs)) ∧ ∃ n, w' = w.drewN n := by
  obtain ⟨p1, cap1, rfl, hm1, hc1⟩ := hx
  go_enter Try.func55, Try.ntmps55
  go_wp2_with fail
  go_loopw [6] (fun i wr => ∃ k n : Nat, k ≤ xs.length ∧ i = .int .i64 k ∧ wr = w.drewN n ∧ noneYet (fun x => !fin .f32 x) xs k) (fun i _ => xs.length - (intOf i).toNat)
  case atStart => exact ⟨0, 0, Nat.zero_le _, rfl, rfl, noneYet_zero _ _⟩
  case round =>
    obtain ⟨k, n, hk, rfl, rfl, hn⟩ := hrel
    by_cases hlt : k < xs.length
    · obtain ⟨b, off, rfl, hcell⟩ := hc1.resolve_left (by omega)
      have h1 : w.cell? ⟨b, off + k, none⟩ = some (.float .f32 xs[k]) := hcell k _ (by simp [hlt])
      clear hcell hc1
      cases hp : fin .f32 xs[k]
      all_goals
        have HP := Lib.hid hp
        clear hp
        go_wp2_with (go_at_call 78; refine (s_l01Finite _ _).mono ?_; rintro e w' ⟨rfl, m, rfl⟩; rw [HP.out])
      · go_ret
        exact ⟨by rw [show loadsOk xs = false by unfold loadsOk; rw [not_finAll hlt HP.out]; simp]; rfl, _, rfl⟩
      · go_roundw
        case rel => exact ⟨k + 1, _, by omega, by go_num, rfl, noneYet_succ hn hlt (by simp [HP.out])⟩
        case measure => simp [intOf]; omega
    · obtain rfl : k = xs.length := by omega
      have hf := Lib.hid (finAll_of hn)
      by_cases hl1 : 1 ≤ xs.length
      · by_cases hl2 : xs.length ≤ 64
        all_goals
          go_wp2
          go_ret
          exact ⟨by simp [loadsOk, hf.out, hl1, hl2]; omega, _, rfl⟩
      · go_wp2
        go_ret
        exact ⟨by simp [loadsOk, hl1], _, rfl⟩
theorem i_areLoads (v : Value) (xs : List Nat) (w : World) (hx : RF w v xs) : Calls Try.prog 48 #[v] w fun e w' => e = .returned (.bool (loadsOk xs)) ∧ ∃ n, w' = w.drewN n := by
  have hx' := hx
  obtain ⟨p1, cap1, rfl, hm1, hc1⟩ := hx'
  by_cases hl1 : 1 ≤ xs.length
  · by_cases hl2 : xs.length ≤ 64
    all_goals
      go_enter Try.func48, Try.ntmps48
      go_wp2_with (go_at_call 52; refine (i_areFinite _ xs _ hx).mono ?_; rintro e w' ⟨rfl, n, rfl⟩)
      go_ret
      exact ⟨by simp [loadsOk, hl1, hl2], by first | exact ⟨_, rfl⟩ | exact ⟨0, rfl⟩⟩
  · go_enter Try.func48, Try.ntmps48
    go_wp2
    go_ret
    exact ⟨by simp [loadsOk, hl1], 0, rfl⟩
/-- How many loads are at least so much. -/
def atLeast (xs : List Nat) (l : Nat) : Nat := xs.countP fun x => fge .f32 x l
theorem atLeast_take (xs : List Nat) (l k : Nat) (hk : k < xs.length) : atLeast (xs.take (k + 1)) l = atLeast (xs.take k) l + if fge .f32 xs[k] l then 1 else 0 := by
  unfold atLeast
  rw [List.take_succ_eq_append_getElem hk, List.countP_append]
  simp [List.countP_cons]
theorem atLeast_le (xs : List Nat) (l k : Nat) : atLeast (xs.take k) l ≤ k := by
  unfold atLeast
  exact Nat.le_trans List.countP_le_length (List.length_take_le _ _)
def exceed (xs : List Nat) (l : Nat) : Nat := fa .quo .f32 (floatOfInt .f32 (atLeast xs l)) (floatOfInt .f32 xs.length)
/-- A number and whether the function succeeds. -/
def NumB (good : Bool) (S : Nat) (e : Ending) : Prop := ∃ r, e = .returned (.tuple #[.float .f32 r, .bool good]) ∧ cn .f32 r = cn .f32 (if good then S else 0)
set_option maxHeartbeats 400000 in
theorem i_ExceedOf (v : Value) (xs : List Nat) (l : Nat) (w : World) (hx : RF w v xs) : Calls Try.prog 16 #[v, .float .f32 l] w fun e w' => NumB (loadsOk xs) (exceed xs l) e ∧ ∃ n, w' = w.drewN n := by
  have hx' := hx
  obtain ⟨p1, cap1, rfl, hm1, hc1⟩ := hx'
  have HX := Lib.hid hx
  clear hx
  cases hok : loadsOk xs
  all_goals
    have HK := Lib.hid hok
    clear hok
    go_enter Try.func16, Try.ntmps16
    go_wp2_with (go_at_call 48; refine (i_areLoads _ xs _ HX.out).mono ?_; rintro e w' ⟨rfl, n, rfl⟩; rw [HK.out])
  · go_ret2
    exact ⟨⟨0, rfl, rfl⟩, _, rfl⟩
  · go_loopw [6, 14] (fun t i wr => ∃ k n : Nat, k ≤ xs.length ∧ i = .int .i64 k ∧ t = .int .i64 (atLeast (xs.take k) l) ∧ wr = w.drewN n) (fun _ i _ => xs.length - (intOf i).toNat)
    case atStart => exact ⟨0, _, Nat.zero_le _, rfl, rfl, rfl⟩
    case round =>
      obtain ⟨k, n, hk, rfl, rfl, rfl⟩ := hrel
      by_cases hlt : k < xs.length
      · obtain ⟨b, off, rfl, hcell⟩ := hc1.resolve_left (by omega)
        have h1 : w.cell? ⟨b, off + k, none⟩ = some (.float .f32 xs[k]) := hcell k _ (by simp [hlt])
        have h2 := atLeast_le xs l k
        have HT := Lib.hid (atLeast_take xs l k hlt)
        clear hcell hc1
        go_wp2
        all_goals
          go_roundw
          case rel => exact ⟨k + 1, _, by omega, by go_num, by rw [HT.out]; simp_all [fge], rfl⟩
          case measure => simp [intOf]; omega
      · obtain rfl : k = xs.length := by omega
        go_wp2_with (refine wpList_fa rfl rfl rfl rfl rfl (by first | assumption | exact hrfl _) (by first | assumption | exact hrfl _) ?_; intro r n hr)
        go_ret2
        exact ⟨⟨_, rfl, by rw [hr.out]; simp [exceed, fa_cn_left, fa_cn_right, cn_fa]⟩, _, rfl⟩
/-- The sum from left to right. -/
def fsum (xs : List Nat) : Nat := xs.foldl (fun a x => fa .add .f32 a x) 0
theorem fsum_take (xs : List Nat) (k : Nat) (hk : k < xs.length) : fsum (xs.take (k + 1)) = fa .add .f32 (fsum (xs.take k)) xs[k] := by
  unfold fsum
  rw [List.take_succ_eq_append_getElem hk, List.foldl_append]
  rfl
theorem cn_fsum (xs : List Nat) : cn .f32 (fsum xs) = fsum xs := by
  rcases List.eq_nil_or_concat xs with rfl | ⟨ys, y, rfl⟩
  · rfl
  · unfold fsum; rw [List.concat_eq_append, List.foldl_append]; exact cn_fa _ _ _ _
def fmean (xs : List Nat) : Nat := fa .quo .f32 (fsum xs) (floatOfInt .f32 xs.length)
set_option maxHeartbeats 400000 in
theorem i_sum (v : Value) (xs : List Nat) (w : World) (hx : RF w v xs) : Calls Try.prog 83 #[v] w fun e w' => ∃ r, e = .returned (.float .f32 r) ∧ cn .f32 r = fsum xs ∧ ∃ n, w' = w.drewN n := by
  obtain ⟨p1, cap1, rfl, hm1, hc1⟩ := hx
  go_enter Try.func83, Try.ntmps83
  go_wp2_with fail
  go_loopw [3, 8] (fun t i wr => ∃ k n r : Nat, k ≤ xs.length ∧ i = .int .i64 k ∧ t = .float .f32 r ∧ Hid (cn .f32 r = fsum (xs.take k)) ∧ wr = w.drewN n) (fun _ i _ => xs.length - (intOf i).toNat)
  case atStart => exact ⟨0, 0, 0, Nat.zero_le _, rfl, rfl, rfl, rfl⟩
  case round =>
    obtain ⟨k, n, r, hk, rfl, rfl, hr, rfl⟩ := hrel
    by_cases hlt : k < xs.length
    · obtain ⟨b, off, rfl, hcell⟩ := hc1.resolve_left (by omega)
      have h1 : w.cell? ⟨b, off + k, none⟩ = some (.float .f32 xs[k]) := hcell k _ (by simp [hlt])
      have HT := Lib.hid (fsum_take xs k hlt)
      clear hcell hc1
      go_wp2_with (refine wpList_fa rfl rfl rfl rfl rfl (by first | assumption | exact hrfl _) (by first | assumption | exact hrfl _) ?_; intro r n hr)
      go_roundw
      case rel => exact ⟨k + 1, _, _, by omega, by go_num, rfl, by show _ = _; rw [HT.out, hr.out, fa_cn_right], rfl⟩
      case measure => simp [intOf]; omega
    · obtain rfl : k = xs.length := by omega
      go_wp2
      go_ret
      exact ⟨_, rfl, by rw [hr.out, List.take_length], _, rfl⟩
theorem i_meanOf (v : Value) (xs : List Nat) (w : World) (hx : RF w v xs) : Calls Try.prog 50 #[v] w fun e w' => ∃ r, e = .returned (.float .f32 r) ∧ cn .f32 r = fmean xs ∧ ∃ n, w' = w.drewN n := by
  have hx' := hx
  obtain ⟨p1, cap1, rfl, hm1, hc1⟩ := hx'
  have HX := Lib.hid hx
  clear hx hc1
  go_enter Try.func50, Try.ntmps50
  go_wp2_with (first | (go_at_call 83; refine (i_sum _ xs _ HX.out).mono ?_; rintro e w' ⟨r, rfl, hr, n, rfl⟩; have hr' := Lib.hid hr; clear hr) | (refine wpList_fa rfl rfl rfl rfl rfl (by first | assumption | exact hrfl _) (by first | assumption | exact hrfl _) ?_; intro r n hr))
  go_ret
  exact ⟨_, rfl, (Eq.trans (Hid.out (by assumption)) (by simp only [fmean, fa_cn_left, fa_cn_right, cn_fa])), _, rfl⟩
set_option maxHeartbeats 400000 in
theorem i_MeanLoad (v : Value) (xs : List Nat) (w : World) (hx : RF w v xs) : Calls Try.prog 12 #[v] w (Num1 (loadsOk xs) (fmean xs) w) := by
  have hx' := hx
  obtain ⟨p1, cap1, rfl, hm1, hc1⟩ := hx'
  have HX := Lib.hid hx
  clear hx hc1
  cases hok : loadsOk xs
  all_goals
    have HK := Lib.hid hok
    clear hok
    go_enter Try.func12, Try.ntmps12
    go_wp2_with (first | (go_at_call 48; refine (i_areLoads _ xs _ HX.out).mono ?_; rintro e w' ⟨rfl, n, rfl⟩; rw [HK.out]) | (go_at_call 50; refine (i_meanOf _ xs _ (HX.out.drewN _)).mono ?_; rintro e w' ⟨r, rfl, hr, n, rfl⟩; have hr' := Lib.hid hr; clear hr) | (go_at_call 49; refine (i_checked _ _).mono ?_; rintro e w' ⟨rfl, n, rfl⟩))
  · go_ret2
    exact Num1.no rfl (by repeat (first | exact Below.refl _ _ | assumption | refine below_drewN ?_ _ | refine below_alloc (Nat.le_refl _) ?_ _ | (refine Below.setCell ?_ (by first | exact Nat.le_refl _ | (simp; done) | (simp; omega) | omega) _) | (refine below_step (Nat.le_refl _) ?_ (by assumption))))
  · go_ret2
    exact Num1.ok rfl (Eq.trans (Hid.out (by assumption)) (by simp only [fmean, fa_cn_left, fa_cn_right, cn_fa])) (by repeat (first | exact Below.refl _ _ | assumption | refine below_drewN ?_ _ | refine below_alloc (Nat.le_refl _) ?_ _ | (refine Below.setCell ?_ (by first | exact Nat.le_refl _ | (simp; done) | (simp; omega) | omega) _) | (refine below_step (Nat.le_refl _) ?_ (by assumption))))
end Go.Proofs.Ytmpmnhnobgidoaa
