/- Walks: the spread of loads. -/
import Derived.Test.YtmpmnhnobgidoaaD
import Derived.Test.YtmpmnhnobgidoaaO
import Derived.Test.YtmpmnhnobgidoaaNS
namespace Go.Proofs.Ytmpmnhnobgidoaa
set_option linter.unusedSimpArgs false
set_option linter.unusedVariables false
open Go.RowKit Go.Fl

theorem widen_cn (x : Nat) : widen (cn .f32 x) = widen x := widen_congr (cn_cn _ _)
theorem cn_ssum (xs : List Nat) (k : Nat) : cn .f64 (ssum xs k) = ssum xs k := by
  cases k with
  | zero => rfl
  | succ k => exact cn_fa _ _ _ _
theorem cn_ssq (xs : List Nat) (k : Nat) : cn .f64 (ssq xs k) = ssq xs k := by
  cases k with
  | zero => rfl
  | succ k => exact cn_fa _ _ _ _
theorem ssum_succ (xs : List Nat) (k : Nat) (hk : k < xs.length) : ssum xs (k + 1) = fa .add .f64 (ssum xs k) (widen xs[k]) := by simp [ssum, hk]
theorem sdev_at (xs : List Nat) (k : Nat) (hk : k < xs.length) : sdev xs k = fa .sub .f64 (widen xs[k]) (smean xs) := by simp [sdev, hk]
theorem ssq_succ (xs : List Nat) (k : Nat) : ssq xs (k + 1) = fa .add .f64 (ssq xs k) (fa .mul .f64 (sdev xs k) (sdev xs k)) := rfl
def spread (xs : List Nat) : Nat := narrow (sroot xs)
theorem loads_fin {xs : List Nat} (h : loadsOk xs = true) : (∀ x ∈ xs, fin .f32 x = true) ∧ 1 ≤ xs.length ∧ xs.length ≤ 64 := by
  unfold loadsOk finAll at h
  simp only [Bool.and_eq_true, decide_eq_true_eq, List.all_eq_true] at h
  exact ⟨h.2, h.1.1, h.1.2⟩
theorem sroot_of {xs : List Nat} {r s : Nat} (hr : Hid (cn .f64 r = fa .quo .f64 (ssq xs xs.length) (cn .f64 (floatOfInt .f64 (xs.length : Int))))) (hs : cn .f64 s = rt .f64 r) : cn .f64 s = sroot xs := by
  rw [hs, ← rt_cn, hr.out, fa_cn_right]; rfl
set_option maxHeartbeats 1000000 in
theorem i_SpreadOfLoads (v : Value) (xs : List Nat) (w : World) (hx : RF w v xs) : Calls Try.prog 13 #[v] w (Num1 (loadsOk xs) (spread xs) w) := by
  obtain ⟨p1, cap1, rfl, hm1, hc1⟩ := id hx
  have HX := Lib.hid hx
  have HC1 := Lib.hid hc1
  clear hx hc1
  cases hok : loadsOk xs
  · have HK := Lib.hid hok
    clear hok
    go_enter Try.func13, Try.ntmps13
    go_wp2_with (go_at_call 48; refine (i_areLoads _ xs _ HX.out).mono ?_; rintro e w' ⟨rfl, n, rfl⟩; rw [HK.out])
    go_ret2
    exact Num1.no rfl (by repeat (first | exact Below.refl _ _ | assumption | refine below_drewN ?_ _ | refine below_alloc (Nat.le_refl _) ?_ _ | (refine Below.setCell ?_ (by first | exact Nat.le_refl _ | (simp; done) | (simp; omega) | omega) _) | (refine below_step (Nat.le_refl _) ?_ (by assumption))))
  have HK := Lib.hid hok
  have HF : Hid (fits (sroot xs)) := by obtain ⟨a, b, c⟩ := loads_fin hok; exact sroot_fits xs a b c
  clear hok
  go_enter Try.func13, Try.ntmps13
  go_wp2_with (go_at_call 48; refine (i_areLoads _ xs _ HX.out).mono ?_; rintro e w' ⟨rfl, n, rfl⟩; rw [HK.out])
  go_loopw [5, 21] (fun t i wr => ∃ k n r : Nat, k ≤ xs.length ∧ i = .int .i64 k ∧ t = .float .f64 r ∧ Hid (cn .f64 r = ssum xs k) ∧ wr = w.drewN n) (fun _ i _ => xs.length - (intOf i).toNat)
  case atStart => exact ⟨0, _, 0, Nat.zero_le _, rfl, rfl, rfl, rfl⟩
  case round =>
    obtain ⟨k, n, r, hk, rfl, rfl, hr, rfl⟩ := hrel
    by_cases hlt : k < xs.length
    · obtain ⟨b, off, rfl, hcell⟩ := HC1.out.resolve_left (by omega)
      have h1 : w.cell? ⟨b, off + k, none⟩ = some (.float .f32 xs[k]) := hcell k _ (by simp [hlt])
      have HT := Lib.hid (ssum_succ xs k hlt)
      clear hcell
      go_wp2_with (first | (refine wpList_fa rfl rfl rfl rfl rfl (by first | assumption | exact hrfl _) (by first | assumption | exact hrfl _) ?_; intro r n hr) | (refine wpList_widen (dst := 37) rfl rfl rfl (by kernel_rfl) (by exact Try.underlying37) (by first | assumption | exact hrfl _) ?_; intro r n hr))
      go_roundw
      case rel => exact ⟨k + 1, _, _, by omega, by go_num, rfl, by show _ = _; rw [HT.out, hr.out, widen_cn], rfl⟩
      case measure => simp [intOf]; omega
    · obtain rfl : k = xs.length := by omega
      go_wp2_with (refine wpList_fa rfl rfl rfl rfl rfl (by first | assumption | exact hrfl _) (by first | assumption | exact hrfl _) ?_; intro r n hr)
      have HM : Hid (cn .f64 r = smean xs) := by show _ = _; rw [hr.out, fa_cn_right]; rfl
      clear hr
      go_loopw [6, 35] (fun t i wr' => ∃ k n r : Nat, k ≤ xs.length ∧ i = .int .i64 k ∧ t = .float .f64 r ∧ Hid (cn .f64 r = ssq xs k) ∧ wr' = w.drewN n) (fun _ i _ => xs.length - (intOf i).toNat)
      case atStart => exact ⟨0, _, 0, Nat.zero_le _, rfl, rfl, rfl, by first | rfl | exact World.drewN_drewN _ _ _⟩
      case round =>
        obtain ⟨k, n2, q, hk2, rfl, rfl, hq, rfl⟩ := hrel
        by_cases hlt2 : k < xs.length
        · obtain ⟨b, off, rfl, hcell⟩ := HC1.out.resolve_left (by omega)
          have h1 : w.cell? ⟨b, off + k, none⟩ = some (.float .f32 xs[k]) := hcell k _ (by simp [hlt2])
          have HT := Lib.hid (ssq_succ xs k)
          have HD := Lib.hid (sdev_at xs k hlt2)
          clear hcell
          go_wp2_with (first | (refine wpList_fa rfl rfl rfl rfl rfl (by first | assumption | exact hrfl _) (by first | assumption | exact hrfl _) ?_; intro r n hr) | (refine wpList_widen (dst := 37) rfl rfl rfl (by kernel_rfl) (by exact Try.underlying37) (by first | assumption | exact hrfl _) ?_; intro r n hr))
          go_roundw
          case rel => exact ⟨k + 1, _, _, by omega, by go_num, rfl, by show _ = _; rw [HT.out, HD.out, hr.out, widen_cn], rfl⟩
          case measure => simp [intOf]; omega
        · obtain rfl : k = xs.length := by omega
          go_wp2_with (first | (refine wpList_fa rfl rfl rfl rfl rfl (by first | assumption | exact hrfl _) (by first | assumption | exact hrfl _) ?_; intro r n hr) | (go_at_call 51; refine (f_Sqrt _ _).mono ?_; rintro e w' ⟨s, rfl, hs, n', rfl⟩; replace hs := Lib.hid (sroot_of hr hs)) | (refine wpList_narrow (dst := 26) rfl rfl rfl (by kernel_rfl) (by exact Try.underlying26) hs HF ?_; intro r' n'' hr') | (go_at_call 49; refine (i_checked _ _).mono ?_; rintro e w' ⟨rfl, n, rfl⟩))
          go_ret2
          exact Num1.ok rfl (hr'.out.trans (cn_narrow _).symm) (by repeat (first | exact Below.refl _ _ | assumption | refine below_drewN ?_ _ | refine below_alloc (Nat.le_refl _) ?_ _ | (refine Below.setCell ?_ (by first | exact Nat.le_refl _ | (simp; done) | (simp; omega) | omega) _) | (refine below_step (Nat.le_refl _) ?_ (by assumption))))
end Go.Proofs.Ytmpmnhnobgidoaa
