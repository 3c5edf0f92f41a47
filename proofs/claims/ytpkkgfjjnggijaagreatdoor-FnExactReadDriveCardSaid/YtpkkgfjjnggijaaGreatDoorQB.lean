/- Walks: numbers in decimal, as the reference prints them. -/
import Derived.Test.YtpkkgfjjnggijaaGreatDoorQA
namespace Go.Proofs.YtpkkgfjjnggijaaGreatDoor
set_option linter.unusedSimpArgs false
set_option linter.unusedVariables false
open Go.RowKit Go.Fl Go.Tx Go.Lib

set_option maxRecDepth 100000 in
set_option maxHeartbeats 1000000 in
theorem s_l01DecP (n : Int) (w : World) (h0 : 0 ≤ n) (h1 : n ≤ 1000000000000000) : Calls Tryz.prog 54 #[.int .i64 n] w fun e w' => e = .returned (.string (decB n)) ∧ Below w.heap.size w w' := by
  obtain ⟨N, rfl⟩ : ∃ N : Nat, n = N := ⟨n.toNat, by omega⟩
  have hnd : nDigits N ≤ 20 := nDigits_le20 N (by omega)
  go_enter Tryz.func54, Tryz.ntmps54
  go_wp2_with fail
  go_loopw [3, 4] (fun t i wr => ∃ (u : Nat) (ds : List UInt8), u ≤ N ∧ DigAt N u ds ∧ i = .int .i64 u ∧ OY w.heap.size wr t ds ∧ Below w.heap.size w wr) (fun t i _ => 2 * (RowKit.intOf i).toNat + (match t with | .slice _ 0 _ => 1 | _ => 0))
  case atStart => exact ⟨N, [], Nat.le_refl _, .inl ⟨rfl, rfl⟩, rfl, OY_empty _ _ _ (by simp) (by simp) _ rfl, (by repeat (first | exact Below.refl _ _ | assumption | refine below_drewN ?_ _ | refine below_alloc (Nat.le_refl _) ?_ _ | (refine Below.setCell ?_ (by first | exact Nat.le_refl _ | (simp; done) | (simp; omega) | omega) _) | (refine below_step (Nat.le_refl _) ?_ (by assumption))))⟩
  case round =>
    obtain ⟨u, ds, hu, hd, rfl, hown, hb⟩ := hrel
    have hle := hd.le
    rcases hown.1.2 with ⟨hx, _⟩ | ⟨g, cap, cur, rfl, hBg, hg, hnc, hcm, hcs, htk⟩
    · exact absurd hx hown.2
    have HD := Lib.hid hd
    have HO := Lib.hid hown
    have HB := Lib.hid hb
    clear hd hown hb hg hcs htk hcm hBg
    have hz := dig_byte (u % 10) (by omega)
    have go : ∀ hgo : ds = [] ∨ u ≠ 0, Hid (DigAt N (u / 10) (UInt8.ofNat (48 + u % 10) :: ds)) := fun hgo => HD.out.step hgo
    generalize UInt8.ofNat (48 + u % 10) = d at hz go
    by_cases hds : ds = []
    · have hl0 : ds.length = 0 := by rw [hds]; rfl
      have HS := go (.inl hds)
      clear go
      have hq : ds.length ≤ 100 := by omega
      go_wp2_with (at_builtin; refine wpList_preY w.heap.size ds d rfl rfl rfl rfl ?_ ?_ hq ?_ ?_)
      case _ => exact OY_one _ _ _ rfl HB.out.size _ rfl _ _ (by rw [hz]; go_num)
      case _ => exact OY_below HO.out (by repeat (first | exact Below.refl _ _ | assumption | refine below_drewN ?_ _ | refine below_alloc (Nat.le_refl _) ?_ _ | (refine Below.setCell ?_ (by first | exact Nat.le_refl _ | (simp; done) | (simp; omega) | omega) _) | (refine below_step (Nat.le_refl _) ?_ (by assumption))))
      case _ => have := HB.out.size; simp; omega
      intro u' w1 h1 h2
      have H1 := Lib.hid h1
      have H2 := Lib.hid h2
      clear h1 h2
      go_wp2
      go_roundw
      case rel => exact ⟨u / 10, _, by omega, HS.out, by go_num, by rw [hds]; exact H1.out, by have hb := HB.out; exact Below.trans (by repeat (first | exact Below.refl _ _ | assumption | refine below_drewN ?_ _ | refine below_alloc (Nat.le_refl _) ?_ _ | (refine Below.setCell ?_ (by first | exact Nat.le_refl _ | (simp; done) | (simp; omega) | omega) _) | (refine below_step (Nat.le_refl _) ?_ (by assumption)))) H2.out⟩
      case measure =>
        obtain ⟨p1, p2⟩ := H1.out
        rcases p1.2 with ⟨hx, _⟩ | ⟨g', cap', cur', rfl, _⟩
        · exact absurd hx p2
        · simp [RowKit.intOf, hl0]; omega
    · have hl0 : ds.length ≠ 0 := by intro h; exact hds (List.eq_nil_of_length_eq_zero h)
      have hl1 : ((ds.length : Int) == 0) = false := by simp; exact hds
      by_cases hu0 : u = 0
      · have hsz := OY_string HO.out
        have HE := Lib.hid (HD.out.done hds hu0)
        subst hu0
        clear go hz
        go_wp2
        go_ret
        have e : (⟨ds.toArray⟩ : ByteArray) = decB (N : Int) := by unfold decB; rw [itoa_nonneg, ← HE.out]
        exact ⟨by rw [← e]; rfl, HB.out⟩
      have hu1 : ((u : Int) == 0) = false := by simp; exact hu0
      have HS := go (.inr hu0)
      clear go
      have hq : ds.length ≤ 100 := by omega
      go_wp2_with (at_builtin; refine wpList_preY w.heap.size ds d rfl rfl rfl rfl ?_ ?_ hq ?_ ?_)
      case _ => exact OY_one _ _ _ rfl HB.out.size _ rfl _ _ (by rw [hz]; go_num)
      case _ => exact OY_below HO.out (by repeat (first | exact Below.refl _ _ | assumption | refine below_drewN ?_ _ | refine below_alloc (Nat.le_refl _) ?_ _ | (refine Below.setCell ?_ (by first | exact Nat.le_refl _ | (simp; done) | (simp; omega) | omega) _) | (refine below_step (Nat.le_refl _) ?_ (by assumption))))
      case _ => have := HB.out.size; simp; omega
      intro u' w1 h1 h2
      have H1 := Lib.hid h1
      have H2 := Lib.hid h2
      clear h1 h2
      go_wp2
      go_roundw
      case rel => exact ⟨u / 10, _, by omega, HS.out, by go_num, H1.out, by have hb := HB.out; exact Below.trans (by repeat (first | exact Below.refl _ _ | assumption | refine below_drewN ?_ _ | refine below_alloc (Nat.le_refl _) ?_ _ | (refine Below.setCell ?_ (by first | exact Nat.le_refl _ | (simp; done) | (simp; omega) | omega) _) | (refine below_step (Nat.le_refl _) ?_ (by assumption)))) H2.out⟩
      case measure =>
        obtain ⟨p1, p2⟩ := H1.out
        rcases p1.2 with ⟨hx, _⟩ | ⟨g', cap', cur', rfl, _⟩
        · exact absurd hx p2
        · simp [RowKit.intOf]; omega
set_option maxRecDepth 100000 in
set_option maxHeartbeats 1000000 in
theorem s_l01DecN (n : Int) (w : World) (h0 : n < 0) (h1 : -1000000000000000 ≤ n) : Calls Tryz.prog 54 #[.int .i64 n] w fun e w' => e = .returned (.string (decB n)) ∧ Below w.heap.size w w' := by
  obtain ⟨N, rfl⟩ : ∃ N : Nat, n = -(N : Int) := ⟨n.natAbs, by omega⟩
  have hneg : -(N : Int) < 0 := h0
  have hnd : nDigits N ≤ 20 := nDigits_le20 N (by omega)
  go_enter Tryz.func54, Tryz.ntmps54
  go_wp2_with fail
  go_loopw [3, 4] (fun t i wr => ∃ (u : Nat) (ds : List UInt8), u ≤ N ∧ DigAt N u ds ∧ i = .int .i64 (-(u : Int)) ∧ OY w.heap.size wr t ds ∧ Below w.heap.size w wr) (fun t i _ => 2 * (-(RowKit.intOf i)).toNat + (match t with | .slice _ 0 _ => 1 | _ => 0))
  case atStart => exact ⟨N, [], Nat.le_refl _, .inl ⟨rfl, rfl⟩, rfl, OY_empty _ _ _ (by simp) (by simp) _ rfl, (by repeat (first | exact Below.refl _ _ | assumption | refine below_drewN ?_ _ | refine below_alloc (Nat.le_refl _) ?_ _ | (refine Below.setCell ?_ (by first | exact Nat.le_refl _ | (simp; done) | (simp; omega) | omega) _) | (refine below_step (Nat.le_refl _) ?_ (by assumption))))⟩
  case round =>
    obtain ⟨u, ds, hu, hd, rfl, hown, hb⟩ := hrel
    have hle := hd.le
    rcases hown.1.2 with ⟨hx, _⟩ | ⟨g, cap, cur, rfl, hBg, hg, hnc, hcm, hcs, htk⟩
    · exact absurd hx hown.2
    have HD := Lib.hid hd
    have HO := Lib.hid hown
    have HB := Lib.hid hb
    clear hd hown hb hg hcs htk hcm hBg
    have hz := dig_byte (u % 10) (by omega)
    have qm : Int.tmod (-(u : Int)) 10 = -((u % 10 : Nat) : Int) := by rw [Int.neg_tmod, Int.tmod_eq_emod_of_nonneg (by omega)]; omega
    have qd : Int.tdiv (-(u : Int)) 10 = -((u / 10 : Nat) : Int) := by rw [Int.neg_tdiv, Int.tdiv_eq_ediv_of_nonneg (by omega)]; omega
    have go : ∀ hgo : ds = [] ∨ u ≠ 0, Hid (DigAt N (u / 10) (UInt8.ofNat (48 + u % 10) :: ds)) := fun hgo => HD.out.step hgo
    generalize UInt8.ofNat (48 + u % 10) = d at hz go
    by_cases hdz : (0 : Int) < (u : Int) % 10
    all_goals
      by_cases hds : ds = []
      · have hl0 : ds.length = 0 := by rw [hds]; rfl
        have HS := go (.inl hds)
        have HDS := Lib.hid hds
        clear go hds
        have hq : ds.length ≤ 100 := by omega
        go_wp2_with (at_builtin; refine wpList_preY w.heap.size ds d rfl rfl rfl rfl ?_ ?_ hq ?_ ?_)
        case _ => exact OY_one _ _ _ rfl HB.out.size _ rfl _ _ (by rw [hz]; omega)
        case _ => first | exact OY_below HO.out (by repeat (first | exact Below.refl _ _ | assumption | refine below_drewN ?_ _ | refine below_alloc (Nat.le_refl _) ?_ _ | (refine Below.setCell ?_ (by first | exact Nat.le_refl _ | (simp; done) | (simp; omega) | omega) _) | (refine below_step (Nat.le_refl _) ?_ (by assumption)))) | (have hx := HO.out; rw [hl0] at hx; exact OY_below hx (by repeat (first | exact Below.refl _ _ | assumption | refine below_drewN ?_ _ | refine below_alloc (Nat.le_refl _) ?_ _ | (refine Below.setCell ?_ (by first | exact Nat.le_refl _ | (simp; done) | (simp; omega) | omega) _) | (refine below_step (Nat.le_refl _) ?_ (by assumption)))))
        case _ => have := HB.out.size; simp; omega
        intro u' w1 h1 h2
        have H1 := Lib.hid h1
        have H2 := Lib.hid h2
        clear h1 h2
        go_wp2
        go_roundw
        case rel => exact ⟨u / 10, _, by omega, HS.out, by go_num, by first | exact H1.out | (rw [HDS.out]; exact H1.out), by have hb := HB.out; exact Below.trans (by repeat (first | exact Below.refl _ _ | assumption | refine below_drewN ?_ _ | refine below_alloc (Nat.le_refl _) ?_ _ | (refine Below.setCell ?_ (by first | exact Nat.le_refl _ | (simp; done) | (simp; omega) | omega) _) | (refine below_step (Nat.le_refl _) ?_ (by assumption)))) H2.out⟩
        case measure =>
          obtain ⟨p1, p2⟩ := H1.out
          rcases p1.2 with ⟨hx, _⟩ | ⟨g', cap', cur', rfl, _⟩
          · exact absurd hx p2
          · simp [RowKit.intOf, hl0]; omega
      · have hl0 : ds.length ≠ 0 := by intro h; exact hds (List.eq_nil_of_length_eq_zero h)
        have hl1 : ((ds.length : Int) == 0) = false := by simp; exact hds
        by_cases hu0 : u = 0
        · have HE := Lib.hid (HD.out.done hds hu0)
          subst hu0
          clear go hz qm qd hdz
          have hq : ds.length ≤ 100 := by omega
          go_wp2_with (at_builtin; refine wpList_preY w.heap.size ds 45 rfl rfl rfl rfl ?_ ?_ hq ?_ ?_)
          case _ => exact OY_one _ _ _ rfl HB.out.size _ rfl _ _ rfl
          case _ => exact OY_below HO.out (by repeat (first | exact Below.refl _ _ | assumption | refine below_drewN ?_ _ | refine below_alloc (Nat.le_refl _) ?_ _ | (refine Below.setCell ?_ (by first | exact Nat.le_refl _ | (simp; done) | (simp; omega) | omega) _) | (refine below_step (Nat.le_refl _) ?_ (by assumption))))
          case _ => have := HB.out.size; simp; omega
          intro u' w1 h1 h2
          have H1 := Lib.hid h1
          have H2 := Lib.hid h2
          obtain ⟨p1, p2⟩ := h1
          rcases p1.2 with ⟨hx, _⟩ | ⟨g', cap', cur', rfl, _⟩
          · exact absurd hx p2
          have hsz := OY_string H1.out
          simp only [List.length_cons] at hsz
          clear h2 p1 p2
          have hb := HB.out
          go_wp2
          go_ret
          have e : (⟨(45 :: ds).toArray⟩ : ByteArray) = decB (-(N : Int)) := by unfold decB; rw [itoa_neg _ (by omega), ← HE.out]
          exact ⟨by rw [← e]; rfl, Below.trans (by repeat (first | exact Below.refl _ _ | assumption | refine below_drewN ?_ _ | refine below_alloc (Nat.le_refl _) ?_ _ | (refine Below.setCell ?_ (by first | exact Nat.le_refl _ | (simp; done) | (simp; omega) | omega) _) | (refine below_step (Nat.le_refl _) ?_ (by assumption)))) H2.out⟩
        have hu1 : ((u : Int) == 0) = false := by simp; exact hu0
        have HS := go (.inr hu0)
        clear go
        have hq : ds.length ≤ 100 := by omega
        go_wp2_with (at_builtin; refine wpList_preY w.heap.size ds d rfl rfl rfl rfl ?_ ?_ hq ?_ ?_)
        case _ => exact OY_one _ _ _ rfl HB.out.size _ rfl _ _ (by rw [hz]; omega)
        case _ => exact OY_below HO.out (by repeat (first | exact Below.refl _ _ | assumption | refine below_drewN ?_ _ | refine below_alloc (Nat.le_refl _) ?_ _ | (refine Below.setCell ?_ (by first | exact Nat.le_refl _ | (simp; done) | (simp; omega) | omega) _) | (refine below_step (Nat.le_refl _) ?_ (by assumption))))
        case _ => have := HB.out.size; simp; omega
        intro u' w1 h1 h2
        have H1 := Lib.hid h1
        have H2 := Lib.hid h2
        clear h1 h2
        go_wp2
        go_roundw
        case rel => exact ⟨u / 10, _, by omega, HS.out, by go_num, H1.out, by have hb := HB.out; exact Below.trans (by repeat (first | exact Below.refl _ _ | assumption | refine below_drewN ?_ _ | refine below_alloc (Nat.le_refl _) ?_ _ | (refine Below.setCell ?_ (by first | exact Nat.le_refl _ | (simp; done) | (simp; omega) | omega) _) | (refine below_step (Nat.le_refl _) ?_ (by assumption)))) H2.out⟩
        case measure =>
          obtain ⟨p1, p2⟩ := H1.out
          rcases p1.2 with ⟨hx, _⟩ | ⟨g', cap', cur', rfl, _⟩
          · exact absurd hx p2
          · simp [RowKit.intOf]; omega
theorem s_l01DecV (n : Int) (w : World) (h : inV n = true) : Calls Tryz.prog 54 #[.int .i64 n] w fun e w' => e = .returned (.string (decB n)) ∧ Below w.heap.size w w' := by
  rw [inV_iff] at h
  by_cases h0 : 0 ≤ n
  · exact s_l01DecP n w h0 h.2
  · exact s_l01DecN n w (by omega) h.1
end Go.Proofs.YtpkkgfjjnggijaaGreatDoor
