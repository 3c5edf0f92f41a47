/- Walks: what a valid rotor is. -/
import Derived.Test.YtglfjanclopipaaKJ
import Derived.Test.YtglfjanclopipaaHFA
namespace Go.Proofs.Ytglfjanclopipaa
set_option linter.unusedSimpArgs false
set_option linter.unusedVariables false
open Go.RowKit Go.Fl Go.Lib

/-- The numbers of stations. -/
def staF (cs : List Sta) : List Nat := cs.flatMap fun s => [s.ra, s.ch, s.tw]
theorem staF_succ (cs : List Sta) (k : Nat) (h : k < cs.length) : staF (cs.take (k + 1)) = staF (cs.take k) ++ [cs[k].ra, cs[k].ch, cs[k].tw] := by
  unfold staF
  rw [List.take_succ_eq_append_getElem h, List.flatMap_append]
  simp
theorem staF_len (cs : List Sta) : (staF cs).length = cs.length * 3 := by
  induction cs with
  | nil => rfl
  | cons s r ih =>
    show ([s.ra, s.ch, s.tw] ++ staF r).length = _
    rw [List.length_append, ih]
    simp; omega
abbrev rotV (va vl vd vs : Value) (c : Int) (hub tip : Nat) : Value := .agg #[va, vl, vd, vs, .int .i64 c, .float .f32 hub, .float .f32 tip]
def RotAt (w : World) (g : Nat) (va vl vd vs : Value) (c : Int) (hub tip : Nat) : Prop := ProfAt w g va vl vd ∧ w.cell? ⟨g, 3, none⟩ = some vs ∧ w.cell? ⟨g, 4, none⟩ = some (.int .i64 c) ∧ w.cell? ⟨g, 5, none⟩ = some (.float .f32 hub) ∧ w.cell? ⟨g, 6, none⟩ = some (.float .f32 tip)
theorem RotAt.below {w w' : World} {g : Nat} {va vl vd vs : Value} {c : Int} {hub tip : Nat} (h : RotAt w g va vl vd vs c hub tip) (hb : Below w.heap.size w w') : RotAt w' g va vl vd vs c hub tip := ⟨h.1.below hb, hcell_below h.2.1 hb, hcell_below h.2.2.1 hb, hcell_below h.2.2.2.1 hb, hcell_below h.2.2.2.2 hb⟩
theorem rot_top (w : World) (k : Nat) (hk : k = w.heap.size) (va vl vd vs : Value) (c : Int) (hub tip : Nat) (t : TypeId) : RotAt (w.alloc (.cells #[va, vl, vd, vs, .int .i64 c, .float .f32 hub, .float .f32 tip] t)) k va vl vd vs c hub tip := by
  subst hk
  refine ⟨⟨?_, ?_, ?_⟩, ?_, ?_, ?_, ?_⟩ <;> (rw [cell_of_row _ _ _ _ t (0, 0) (heap_alloc_new w _)]; rfl)
theorem StaAt.below {w w' : World} {b o : Nat} {c : Sta} (h : StaAt w b o c) (hb : Below w.heap.size w w') : StaAt w' b o c := ⟨hcell_below h.1 hb, hcell_below h.2.1 hb, hcell_below h.2.2 hb⟩
theorem sta_top (w : World) (k : Nat) (hk : k = w.heap.size) (c : Sta) (t : TypeId) : StaAt (w.alloc (.cells #[.float .f32 c.ra, .float .f32 c.ch, .float .f32 c.tw] t)) k 0 c := by
  subst hk
  refine ⟨?_, ?_, ?_⟩ <;> (rw [cell_of_row _ _ _ _ t (0, 0) (heap_alloc_new w _)]; rfl)
/-- What a station's radius has to be greater than. -/
def befo (hub : Nat) (cs : List Sta) : Nat → Nat
  | 0 => hub
  | k + 1 => (cs.getD k zeroSta).ra
def staOk (b tip : Nat) (s : Sta) : Bool := fgt .f32 s.ra b && flt .f32 s.ra tip && above s.ch && fin .f32 s.tw
def rotSta (hub tip : Nat) (cs : List Sta) (k : Nat) : Bool := staOk (befo hub cs k) tip (cs.getD k zeroSta)
def rotPre (po : Bool) (cs : List Sta) (c : Int) (hub tip : Nat) : Bool := po && decide (2 ≤ cs.length) && decide (cs.length ≤ 12) && inB c 1 6 && least hub && fin .f32 tip
def rotOk (po : Bool) (cs : List Sta) (c : Int) (hub tip : Nat) : Bool := rotPre po cs c hub tip && (List.range cs.length).all (rotSta hub tip cs)
theorem rotOk_no {po : Bool} {cs : List Sta} {c : Int} {hub tip : Nat} (h : rotPre po cs c hub tip = false) : rotOk po cs c hub tip = false := by unfold rotOk; rw [h]; rfl
theorem rotOk_yes {po : Bool} {cs : List Sta} {c : Int} {hub tip : Nat} (h : rotPre po cs c hub tip = true) : rotOk po cs c hub tip = (List.range cs.length).all (rotSta hub tip cs) := by unfold rotOk; rw [h]; rfl
theorem rotOk_len {po : Bool} {cs : List Sta} {c : Int} {hub tip : Nat} (h : rotOk po cs c hub tip = true) : po = true ∧ cs.length ≤ 12 ∧ 1 ≤ c ∧ c ≤ 6 := by
  unfold rotOk rotPre at h
  simp only [Bool.and_eq_true, decide_eq_true_eq, inB_iff] at h
  exact ⟨h.1.1.1.1.1.1, h.1.1.1.1.2, h.1.1.1.2.1, h.1.1.1.2.2⟩
theorem getD_sta {cs : List Sta} {k : Nat} (h : k < cs.length) : cs.getD k zeroSta = cs[k] := by simp [List.getD_eq_getElem?_getD, h]
set_option maxRecDepth 100000 in
set_option maxHeartbeats 4000000 in
theorem s_l03Is (g : Nat) (va vl vd vs : Value) (a l d : List Nat) (cs : List Sta) (c : Int) (hub tip : Nat) (w : World) (hp : RotAt w g va vl vd vs c hub tip) (ha : RF w va a) (hl : RF w vl l) (hd : RF w vd d) (hs : RT w vs cs) :
    Calls Try.prog 74 #[.pointer (some ⟨g, 0, none⟩)] w fun e' w' => e' = .returned (.bool (rotOk (profOk a l d) cs c hub tip)) ∧ Below w.heap.size w w' := by
  have A0 := Lib.hid (s_l02Is g va vl vd a l d w hp.1 ha hl hd)
  have HR := Lib.hid hp
  obtain ⟨ps, cs', rfl, hms, hcs⟩ := hs
  have HC := Lib.hid hcs
  obtain ⟨-, h3, h4, h5, h6⟩ := hp
  have A1 := Lib.hid (fun W => s_l00In c 1 6 W)
  have A2 := Lib.hid (fun W => s_l02Least hub W)
  have A3 := Lib.hid (fun W => s_l01Finite tip W)
  have HNO : Hid (∀ b, rotPre (profOk a l d) cs c hub tip = b → b = false → rotOk (profOk a l d) cs c hub tip = false) := fun b h1 h2 => rotOk_no (h1.trans h2)
  have HYE := Lib.hid (fun h => rotOk_yes (po := profOk a l d) (cs := cs) (c := c) (hub := hub) (tip := tip) h)
  have HPR : Hid (rotPre (profOk a l d) cs c hub tip = (profOk a l d && decide (2 ≤ cs.length) && decide (cs.length ≤ 12) && inB c 1 6 && least hub && fin .f32 tip)) := rfl
  clear hcs ha hl hd
  generalize rotOk (profOk a l d) cs c hub tip = D at *
  generalize rotPre (profOk a l d) cs c hub tip = R at *
  generalize profOk a l d = K0 at *
  generalize inB c 1 6 = K1 at *
  generalize least hub = K2 at *
  generalize fin .f32 tip = K3 at *
  go_enter Try.func74, Try.ntmps74
  go_wp2_with fail
  refine A0.out.mono ?_
  rintro e' w1 ⟨rfl, n, rfl⟩
  cases K0
  · have e0 : Hid (D = false) := HNO.out _ HPR.out (by simp only [Bool.false_and])
    go_wp2
    go_ret
    exact ⟨by rw [e0.out]; rfl, (by repeat (first | exact Below.refl _ _ | assumption | refine below_drewN ?_ _ | refine below_alloc (Nat.le_refl _) ?_ _ | (refine Below.setCell ?_ (by first | exact Nat.le_refl _ | (simp; done) | (simp; omega) | omega) _) | (refine below_step (Nat.le_refl _) ?_ (by assumption))))⟩
  by_cases q0 : cs.length < 2
  · have e0 : Hid (D = false) := HNO.out _ HPR.out (by rw [show decide (2 ≤ cs.length) = false by simp; omega]; simp only [Bool.and_false, Bool.false_and])
    have q0' : (cs.length : Int) < 2 := by omega
    go_wp2
    go_ret
    exact ⟨by rw [e0.out]; rfl, (by repeat (first | exact Below.refl _ _ | assumption | refine below_drewN ?_ _ | refine below_alloc (Nat.le_refl _) ?_ _ | (refine Below.setCell ?_ (by first | exact Nat.le_refl _ | (simp; done) | (simp; omega) | omega) _) | (refine below_step (Nat.le_refl _) ?_ (by assumption))))⟩
  have q0' : ¬ (cs.length : Int) < 2 := by omega
  have q0b : decide (2 ≤ cs.length) = true := by simp; omega
  by_cases q1 : 12 < cs.length
  · have e0 : Hid (D = false) := HNO.out _ HPR.out (by rw [show decide (cs.length ≤ 12) = false by simp; omega]; simp only [Bool.and_false, Bool.false_and])
    have q1' : (12 : Int) < (cs.length : Int) := by omega
    clear q0b
    go_wp2
    go_ret
    exact ⟨by rw [e0.out]; rfl, (by repeat (first | exact Below.refl _ _ | assumption | refine below_drewN ?_ _ | refine below_alloc (Nat.le_refl _) ?_ _ | (refine Below.setCell ?_ (by first | exact Nat.le_refl _ | (simp; done) | (simp; omega) | omega) _) | (refine below_step (Nat.le_refl _) ?_ (by assumption))))⟩
  have q1' : ¬ (12 : Int) < (cs.length : Int) := by omega
  have q1b : decide (cs.length ≤ 12) = true := by simp; omega
  rw [q0b, q1b] at HPR
  clear q0b q1b
  cases K1
  · have e0 : Hid (D = false) := HNO.out _ HPR.out (by simp only [Bool.and_false, Bool.false_and])
    go_wp2_with (first | (go_at_call 90; with_reducible refine (A1.out _).mono ?_; rintro e2 w2 ⟨rfl, n2, rfl⟩))
    go_ret
    exact ⟨by rw [e0.out]; rfl, (by repeat (first | exact Below.refl _ _ | assumption | refine below_drewN ?_ _ | refine below_alloc (Nat.le_refl _) ?_ _ | (refine Below.setCell ?_ (by first | exact Nat.le_refl _ | (simp; done) | (simp; omega) | omega) _) | (refine below_step (Nat.le_refl _) ?_ (by assumption))))⟩
  cases K2
  · have e0 : Hid (D = false) := HNO.out _ HPR.out (by simp only [Bool.and_false, Bool.false_and])
    go_wp2_with (first | (go_at_call 90; with_reducible refine (A1.out _).mono ?_; rintro e2 w2 ⟨rfl, n2, rfl⟩) | (go_at_call 116; with_reducible refine (A2.out _).mono ?_; rintro e3 w3 ⟨rfl, n3, rfl⟩))
    go_ret
    exact ⟨by rw [e0.out]; rfl, (by repeat (first | exact Below.refl _ _ | assumption | refine below_drewN ?_ _ | refine below_alloc (Nat.le_refl _) ?_ _ | (refine Below.setCell ?_ (by first | exact Nat.le_refl _ | (simp; done) | (simp; omega) | omega) _) | (refine below_step (Nat.le_refl _) ?_ (by assumption))))⟩
  cases K3
  · have e0 : Hid (D = false) := HNO.out _ HPR.out (by simp only [Bool.and_false, Bool.false_and])
    go_wp2_with (first | (go_at_call 90; with_reducible refine (A1.out _).mono ?_; rintro e2 w2 ⟨rfl, n2, rfl⟩) | (go_at_call 116; with_reducible refine (A2.out _).mono ?_; rintro e3 w3 ⟨rfl, n3, rfl⟩) | (go_at_call 117; with_reducible refine (A3.out _).mono ?_; rintro e4 w4 ⟨rfl, n4, rfl⟩))
    go_ret
    exact ⟨by rw [e0.out]; rfl, (by repeat (first | exact Below.refl _ _ | assumption | refine below_drewN ?_ _ | refine below_alloc (Nat.le_refl _) ?_ _ | (refine Below.setCell ?_ (by first | exact Nat.le_refl _ | (simp; done) | (simp; omega) | omega) _) | (refine below_step (Nat.le_refl _) ?_ (by assumption))))⟩
  have HQ : Hid (D = (List.range cs.length).all (rotSta hub tip cs)) := HYE.out (by rw [HPR.out]; rfl)
  clear HYE HPR HNO A0
  go_wp2_with (first | (go_at_call 90; with_reducible refine (A1.out _).mono ?_; rintro e2 w2 ⟨rfl, n2, rfl⟩) | (go_at_call 116; with_reducible refine (A2.out _).mono ?_; rintro e3 w3 ⟨rfl, n3, rfl⟩) | (go_at_call 117; with_reducible refine (A3.out _).mono ?_; rintro e4 w4 ⟨rfl, n4, rfl⟩))
  clear A1 A2 A3 h3 h4 h5 h6 q0' q1'
  go_loopw [4, 5, 6, 58] (fun b _ _ i wr => ∃ k : Nat, k ≤ cs.length ∧ i = .int .i64 k ∧ b = .float .f32 (befo hub cs k) ∧ Below w.heap.size w wr ∧ ∀ j, j < k → rotSta hub tip cs j = true) (fun _ _ _ i _ => cs.length - (RowKit.intOf i).toNat)
  case atStart => exact ⟨0, Nat.zero_le _, rfl, rfl, (by repeat (first | exact Below.refl _ _ | assumption | refine below_drewN ?_ _ | refine below_alloc (Nat.le_refl _) ?_ _ | (refine Below.setCell ?_ (by first | exact Nat.le_refl _ | (simp; done) | (simp; omega) | omega) _) | (refine below_step (Nat.le_refl _) ?_ (by assumption)))), fun j h => absurd h (Nat.not_lt_zero _)⟩
  case round =>
    obtain ⟨k, hk, rfl, rfl, hb, hn⟩ := hrel
    by_cases hlt : k < cs.length
    case neg =>
      have hk2 : k = cs.length := by omega
      have e0 : Hid (D = true) := by show _ = _; rw [HQ.out, range_all_true (fun j hj => hn j (by omega))]
      have HB := Lib.hid hb
      clear hn hk hb
      subst hk2
      go_wp2
      go_ret
      exact ⟨by rw [e0.out]; rfl, HB.out⟩
    obtain ⟨bs, os, rfl, gs⟩ := HC.out.resolve_left (by omega)
    obtain ⟨m0, m1, m2⟩ := (StaAt_of gs k hlt).below hb
    have HX : Hid (∀ b, rotSta hub tip cs k = b → b = false → D = false) := fun b h1 h2 => by rw [HQ.out]; exact range_all_false k hlt (h1.trans h2)
    have HP : Hid (rotSta hub tip cs k = staOk (befo hub cs k) tip cs[k]) := by show _ = _; unfold rotSta; rw [getD_sta hlt]
    have HBN : Hid (befo hub cs (k + 1) = cs[k].ra) := by show (cs.getD k zeroSta).ra = _; rw [getD_sta hlt]
    have HN := Lib.hid hn
    obtain ⟨-, h3, h4, h5, h6⟩ := HR.out.below hb
    have HB := Lib.hid hb
    clear hb gs hn h4 h5
    generalize cs[k] = s at *
    obtain ⟨ra, ch, tw⟩ := s
    simp only at m0 m1 m2
    have B1 := Lib.hid (fun W => s_l02Above ch W)
    have B2 := Lib.hid (fun W => s_l01Finite tw W)
    have HP2 : Hid (rotSta hub tip cs k = (fgt .f32 ra (befo hub cs k) && flt .f32 ra tip && above ch && fin .f32 tw)) := HP.out
    clear HP
    generalize befo hub cs k = b at *
    generalize above ch = KC at *
    generalize fin .f32 tw = KF at *
    go_wp2_with fail
    have HB2 : Hid (Below w.heap.size w (wr.alloc (.cells #[.float .f32 ra, .float .f32 ch, .float .f32 tw] 101))) := below_alloc (Nat.le_refl _) HB.out _
    obtain ⟨n0, n1, n2⟩ := sta_top wr _ rfl ⟨ra, ch, tw⟩ 101
    have h6 := hcell_alloc h6 (.cells #[.float .f32 ra, .float .f32 ch, .float .f32 tw] 101)
    simp only [Nat.zero_add] at n0 n1 n2
    clear m0 m1 m2 h3 HB
    obtain ⟨gN, hgN⟩ : ∃ gN, gN = wr.heap.size := ⟨_, rfl⟩
    rw [← hgN] at n0 n1 n2 ⊢
    clear hgN
    generalize wr.alloc (.cells #[.float .f32 ra, .float .f32 ch, .float .f32 tw] 101) = W at *
    cases k1 : fgt .f32 ra b
    · have e0 : Hid (D = false) := HX.out _ HP2.out (by rw [k1]; rfl)
      unfold fgt at k1
      go_quiet ((first | (go_at_call 118; with_reducible exact Calls.quiet_of (B1.out _)) | (go_at_call 117; with_reducible exact Calls.quiet_of (B2.out _))))
      go_wp2
      go_ret
      exact ⟨by rw [e0.out]; rfl, below_drewN HB2.out _⟩
    cases k2 : flt .f32 ra tip
    · have e0 : Hid (D = false) := HX.out _ HP2.out (by rw [k2]; simp only [Bool.and_false, Bool.false_and])
      unfold fgt at k1
      unfold flt at k2
      go_quiet ((first | (go_at_call 118; with_reducible exact Calls.quiet_of (B1.out _)) | (go_at_call 117; with_reducible exact Calls.quiet_of (B2.out _))))
      go_wp2
      go_ret
      exact ⟨by rw [e0.out]; rfl, below_drewN HB2.out _⟩
    rw [k1, k2] at HP2
    unfold fgt at k1
    unfold flt at k2
    cases KC
    · have e0 : Hid (D = false) := HX.out _ HP2.out (by simp only [Bool.and_false, Bool.false_and])
      go_quiet ((first | (go_at_call 118; with_reducible exact Calls.quiet_of (B1.out _)) | (go_at_call 117; with_reducible exact Calls.quiet_of (B2.out _))))
      go_wp2
      go_ret
      exact ⟨by rw [e0.out]; rfl, below_drewN HB2.out _⟩
    cases KF
    · have e0 : Hid (D = false) := HX.out _ HP2.out (by simp only [Bool.and_false])
      go_quiet ((first | (go_at_call 118; with_reducible exact Calls.quiet_of (B1.out _)) | (go_at_call 117; with_reducible exact Calls.quiet_of (B2.out _))))
      go_wp2
      go_ret
      exact ⟨by rw [e0.out]; rfl, below_drewN HB2.out _⟩
    go_quiet ((first | (go_at_call 118; with_reducible exact Calls.quiet_of (B1.out _)) | (go_at_call 117; with_reducible exact Calls.quiet_of (B2.out _))))
    go_wp2
    go_roundw
    case rel => exact ⟨k + 1, by omega, by go_num, by rw [HBN.out], below_drewN HB2.out _, fun j hj => by
      by_cases hjk : j < k
      · exact HN.out j hjk
      · obtain rfl : j = k := by omega
        rw [HP2.out]; rfl⟩
    case measure => simp [RowKit.intOf]; omega
end Go.Proofs.Ytglfjanclopipaa
