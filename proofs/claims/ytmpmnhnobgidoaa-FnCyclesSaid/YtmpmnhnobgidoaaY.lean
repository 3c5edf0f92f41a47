/- Walks: the range of equal cycles. -/
import Derived.Test.YtmpmnhnobgidoaaS
import Derived.Test.YtmpmnhnobgidoaaO
namespace Go.Proofs.Ytmpmnhnobgidoaa
set_option linter.unusedSimpArgs false
set_option linter.unusedVariables false
open Go.RowKit Go.Fl

/-- squared n times -/
def sqs (x : Nat) : Nat → Nat
  | 0 => x
  | n + 1 => fa .mul .f32 (sqs x n) (sqs x n)
/-- rooted n times -/
def rts (x : Nat) : Nat → Nat
  | 0 => x
  | n + 1 => root32 (rts x n)
theorem cn_sqs (x n : Nat) (hx : cn .f32 x = x) : cn .f32 (sqs x n) = sqs x n := by
  cases n with
  | zero => exact hx
  | succ n => exact cn_fa _ _ _ _
theorem cn_rts (x n : Nat) (hx : cn .f32 x = x) : cn .f32 (rts x n) = rts x n := by
  cases n with
  | zero => exact hx
  | succ n => exact cn_root32 _
def eq1 (c : Cyc) (h : Nat) : Nat := fa .mul .f32 (wt c) (sqs (rng c) h)
def eqSum (cs : List Cyc) (h : Nat) : Nat → Nat
  | 0 => 0
  | k + 1 => fa .add .f32 (eqSum cs h k) (eq1 (cs.getD k zeroCyc) h)
def eqRange (cs : List Cyc) (c h : Nat) : Nat := rts (fa .quo .f32 (eqSum cs h cs.length) c) h
def eqGood (cs : List Cyc) (c : Nat) (h : Int) : Bool := areCyc cs && above c && inside h 0 3
theorem cn_eqSum (cs : List Cyc) (h k : Nat) : cn .f32 (eqSum cs h k) = eqSum cs h k := by
  cases k with
  | zero => rfl
  | succ k => exact cn_fa _ _ _ _
theorem cn_eqRange (cs : List Cyc) (c h : Nat) : cn .f32 (eqRange cs c h) = eqRange cs c h := cn_rts _ _ (cn_fa _ _ _ _)
theorem eqSum_succ (cs : List Cyc) (h k : Nat) (hk : k < cs.length) : eqSum cs h (k + 1) = fa .add .f32 (eqSum cs h k) (eq1 cs[k] h) := by simp [eqSum, hk]
set_option maxHeartbeats 4000000 in
theorem i_EqualRange (v : Value) (cs : List Cyc) (s : Nat) (p : Int) (w : World) (hx : RC w v cs) : Calls Try.prog 20 #[v, .float .f32 s, .int .i64 p] w (Num1 (eqGood cs s p) (eqRange cs s p.toNat) w) := by
  obtain ⟨p1, cap1, rfl, hm1, hc1⟩ := id hx
  have HX := Lib.hid hx
  have HC1 := Lib.hid hc1
  clear hx hc1
  have h1 : aboveAll [s] = above s := by simp [aboveAll]
  have H1 := Lib.hid h1
  clear h1
  cases ha : areCyc cs
  · have HA := Lib.hid ha
    clear ha
    go_enter Try.func20, Try.ntmps20
    go_wp2_with (go_at_call 23; refine (i_AreCycles _ cs _ HX.out).mono ?_; rintro e w' ⟨rfl, hb⟩; rw [HA.out])
    go_ret2
    exact Num1.no (by unfold eqGood; rw [HA.out]; rfl) (by repeat (first | exact Below.refl _ _ | assumption | refine below_drewN ?_ _ | refine below_alloc (Nat.le_refl _) ?_ _ | (refine Below.setCell ?_ (by first | exact Nat.le_refl _ | (simp; done) | (simp; omega) | omega) _) | (refine below_step (Nat.le_refl _) ?_ (by assumption))))
  cases hs : above s
  · have HA := Lib.hid ha
    have HS := Lib.hid hs
    clear ha hs
    go_enter Try.func20, Try.ntmps20
    go_wp2_with (first | (go_at_call 23; refine (i_AreCycles _ cs _ HX.out).mono ?_; rintro e w' ⟨rfl, hb⟩; rw [HA.out]) | (go_at_call 57; refine (i_arePositive _ [s] _ (RF_top1 _ _ (by simp) _ _)).mono ?_; rintro e w' ⟨rfl, n, rfl⟩; rw [H1.out, HS.out]))
    go_ret2
    exact Num1.no (by unfold eqGood; rw [HA.out, HS.out]; rfl) (by repeat (first | exact Below.refl _ _ | assumption | refine below_drewN ?_ _ | refine below_alloc (Nat.le_refl _) ?_ _ | (refine Below.setCell ?_ (by first | exact Nat.le_refl _ | (simp; done) | (simp; omega) | omega) _) | (refine below_step (Nat.le_refl _) ?_ (by assumption))))
  cases hi : inside p 0 3
  · have HA := Lib.hid ha
    have HS := Lib.hid hs
    have HI := Lib.hid hi
    clear ha hs hi
    go_enter Try.func20, Try.ntmps20
    go_wp2_with (first | (go_at_call 23; refine (i_AreCycles _ cs _ HX.out).mono ?_; rintro e w' ⟨rfl, hb⟩; rw [HA.out]) | (go_at_call 57; refine (i_arePositive _ [s] _ (RF_top1 _ _ (by simp) _ _)).mono ?_; rintro e w' ⟨rfl, n, rfl⟩; rw [H1.out, HS.out]) | (go_at_call 58; refine (i_within _ _ _ _).mono ?_; rintro e w' ⟨rfl, n, rfl⟩; rw [HI.out]))
    go_ret2
    exact Num1.no (by unfold eqGood; rw [HA.out, HS.out, HI.out]; rfl) (by repeat (first | exact Below.refl _ _ | assumption | refine below_drewN ?_ _ | refine below_alloc (Nat.le_refl _) ?_ _ | (refine Below.setCell ?_ (by first | exact Nat.le_refl _ | (simp; done) | (simp; omega) | omega) _) | (refine below_step (Nat.le_refl _) ?_ (by assumption))))
  obtain ⟨hp1, hp12⟩ : 0 ≤ p ∧ p ≤ 3 := by simpa [inside] using hi
  obtain ⟨m, rfl⟩ : ∃ m : Nat, p = (m : Int) := ⟨p.toNat, by omega⟩
  have HG : Hid (eqGood cs s m = true) := by show _ = _; unfold eqGood; rw [ha, hs, hi]; rfl
  have HA := Lib.hid ha
  have HS := Lib.hid hs
  have HI := Lib.hid hi
  clear ha hs hi
  go_enter Try.func20, Try.ntmps20
  go_wp2_with (first | (go_at_call 23; refine (i_AreCycles _ cs _ HX.out).mono ?_; rintro e w' ⟨rfl, hb⟩; rw [HA.out]) | (go_at_call 57; refine (i_arePositive _ [s] _ (RF_top1 _ _ (by simp) _ _)).mono ?_; rintro e w' ⟨rfl, n, rfl⟩; rw [H1.out, HS.out]) | (go_at_call 58; refine (i_within _ _ _ _).mono ?_; rintro e w' ⟨rfl, n, rfl⟩; rw [HI.out]))
  go_loopw [8, 29] (fun t i wr => ∃ (k q : Nat), k ≤ cs.length ∧ i = .int .i64 k ∧ t = .float .f32 q ∧ cn .f32 q = eqSum cs m k ∧ Below w.heap.size w wr) (fun _ i _ => cs.length - (intOf i).toNat)
  case atStart => exact ⟨0, _, Nat.zero_le _, rfl, rfl, rfl, (by repeat (first | exact Below.refl _ _ | assumption | refine below_drewN ?_ _ | refine below_alloc (Nat.le_refl _) ?_ _ | (refine Below.setCell ?_ (by first | exact Nat.le_refl _ | (simp; done) | (simp; omega) | omega) _) | (refine below_step (Nat.le_refl _) ?_ (by assumption))))⟩
  case round =>
    obtain ⟨k, q, hk, rfl, rfl, hq, hb0⟩ := hrel
    have HQ := Lib.hid hq
    have HB0 := Lib.hid hb0
    clear hq hb0
    by_cases hlt : k < cs.length
    · obtain ⟨b1, o1, rfl, hcell1⟩ := HC1.out.resolve_left (by omega)
      obtain ⟨g1, g2, g3⟩ := CycAt_of hcell1 k hlt
      have HT := Lib.hid (eqSum_succ cs m k hlt)
      have g1 := (HB0.out.cell (p := ⟨b1, o1 + k * 3, none⟩) (block_lt_of_cell g1)).trans g1
      have g2 := (HB0.out.cell (p := ⟨b1, o1 + k * 3 + 1, none⟩) (block_lt_of_cell g2)).trans g2
      have g3 := (HB0.out.cell (p := ⟨b1, o1 + k * 3 + 2, none⟩) (block_lt_of_cell g3)).trans g3
      clear hcell1
      generalize cs[k] = c at g1 g2 g3 HT
      obtain ⟨lo, hi, wh⟩ := c
      simp only at g1 g2 g3
      go_wp2_with fail
      refine (i_rangeOf ⟨lo, hi, wh⟩ _).mono ?_
      rintro e w1 ⟨⟨r, rfl, hr⟩, hb⟩
      have HB1 : Hid (Below w.heap.size w w1) := below_step (Nat.le_refl _) HB0.out (by repeat (first | exact Below.refl _ _ | assumption | refine below_drewN ?_ _ | refine below_alloc (Nat.le_refl _) ?_ _ | (refine Below.setCell ?_ (by first | exact Nat.le_refl _ | (simp; done) | (simp; omega) | omega) _) | (refine below_step (Nat.le_refl _) ?_ (by assumption))))
      have HR := Lib.hid hr
      have T1 := Lib.hid (CycAt.below (cyc_top wr _ rfl lo hi wh _) hb)
      clear hb hr g1 g2 g3
      go_wp2_with fail
      go_loopw [11, 36] (fun x j wr => ∃ (i q n : Nat), i ≤ m ∧ j = .int .i64 i ∧ x = .float .f32 q ∧ cn .f32 q = sqs (rng ⟨lo, hi, wh⟩) i ∧ wr = w1.drewN n) (fun _ j _ => m - (intOf j).toNat)
      case atStart => exact ⟨0, _, 0, Nat.zero_le _, rfl, rfl, HR.out, rfl⟩
      case round =>
        obtain ⟨i, x, n3, hi3, rfl, rfl, hx3, rfl⟩ := hrel
        have HX3 := Lib.hid hx3
        clear hx3
        by_cases hlt3 : i < m
        · go_wp2_with (refine wpList_fa rfl rfl rfl rfl rfl (by first | assumption | exact hrfl _) (by first | assumption | exact hrfl _) ?_; intro r n hr)
          go_roundw
          case rel => exact ⟨i + 1, _, _, by omega, by go_num, rfl, by rw [‹Hid (cn .f32 _ = fa .mul .f32 _ _)›.out]; rfl, rfl⟩
          case measure => simp [intOf]; omega
        · obtain rfl : i = m := by omega
          obtain ⟨t1, t2, t3⟩ := T1.out
          go_wp2_with (first | (go_at_call 59; refine (i_weightOf ⟨lo, hi, wh⟩ _).mono ?_; rintro e w' ⟨rfl, hb⟩) | (refine wpList_fa rfl rfl rfl rfl rfl (by first | assumption | exact hrfl _) (by first | assumption | exact hrfl _) ?_; intro r n hr))
          go_roundw
          case rel => exact ⟨k + 1, _, by omega, by go_num, rfl, by rw [HT.out, hr.out]; unfold eq1; simp only [fa_cn_left, fa_cn_right], below_drewN (below_step (Nat.le_refl _) (below_drewN HB1.out _) hb) _⟩
          case measure => simp [intOf]; omega
    · obtain rfl : k = cs.length := by omega
      have hb0 := HB0.out
      go_wp2_with (refine wpList_fa rfl rfl rfl rfl rfl (by first | assumption | exact hrfl _) (by first | assumption | exact hrfl _) ?_; intro r n hr)
      have hr' : Hid (cn .f32 r = fa .quo .f32 (eqSum cs m cs.length) s) := by show _ = _; rw [hr.out]; simp only [fa_cn_left, fa_cn_right]
      clear hr
      go_loopw [12, 53] (fun x j wr' => ∃ (i q n : Nat), i ≤ m ∧ j = .int .i64 i ∧ x = .float .f32 q ∧ cn .f32 q = rts (fa .quo .f32 (eqSum cs m cs.length) s) i ∧ wr' = wr.drewN n) (fun _ j _ => m - (intOf j).toNat)
      case atStart => exact ⟨0, _, _, Nat.zero_le _, rfl, rfl, hr'.out, rfl⟩
      case round =>
        obtain ⟨i, x, n3, hi3, rfl, rfl, hx3, rfl⟩ := hrel
        have HX3 := Lib.hid hx3
        clear hx3
        by_cases hlt3 : i < m
        · go_wp2_with (go_at_call 61; refine (i_RootNumber _ _).mono ?_; rintro e w' ⟨r, rfl, hr, n, rfl⟩; replace hr := Lib.hid (root32_of HX3 hr))
          go_roundw
          case rel => exact ⟨i + 1, _, _, by omega, by go_num, rfl, hr.out, rfl⟩
          case measure => simp [intOf]; omega
        · obtain rfl : i = m := by omega
          go_wp2_with (go_at_call 49; refine (i_checked _ _).mono ?_; rintro e w' ⟨rfl, n, rfl⟩)
          go_ret2
          exact Num1.ok HG.out (HX3.out.trans (cn_eqRange _ _ _).symm) (by repeat (first | exact Below.refl _ _ | assumption | refine below_drewN ?_ _ | refine below_alloc (Nat.le_refl _) ?_ _ | (refine Below.setCell ?_ (by first | exact Nat.le_refl _ | (simp; done) | (simp; omega) | omega) _) | (refine below_step (Nat.le_refl _) ?_ (by assumption))))
end Go.Proofs.Ytmpmnhnobgidoaa
