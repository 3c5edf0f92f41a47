/- Walks: numbers in decimal, read. -/
import Derived.Test.YtpkkgfjjnggijaaGreatDoorQB
import Derived.Test.YtpkkgfjjnggijaaGreatDoorRC
import Derived.Test.YtpkkgfjjnggijaaGreatDoorHFA
namespace Go.Proofs.YtpkkgfjjnggijaaGreatDoor
set_option linter.unusedSimpArgs false
set_option linter.unusedVariables false
open Go.RowKit Go.Fl Go.Tx Go.Lib

theorem inV_B (n : Int) : inB n (-1000000000000000) 1000000000000000 = inV n := rfl
/-- The table of ten's powers, which the library's words look up. -/
def TabP (w : World) : Prop := Lib.TabIs Tryz.prog w "internal/strconv.uint64pow10" .u64 Lib.pow10Tab
theorem TabP_below {w w' : World} (h : TabP w) (hb : Below w.heap.size w w') : TabP w' := (tabBelow_of_tabIs h).on hb |>.here
/-- What a number's text is read to. -/
def DecRd (t : ByteArray) (w : World) (e : Ending) (w' : World) : Prop := e = .returned (.tuple #[.int .i64 ((decOf t).getD 0), .bool (decOf t).isSome]) ∧ Below w.heap.size w w'
theorem DecRd.no {t : ByteArray} {w w' : World} (h : decOf t = none) (hb : Below w.heap.size w w') : DecRd t w (.returned (.tuple #[.int .i64 0, .bool false])) w' := ⟨by rw [h]; rfl, hb⟩
theorem DecRd.ok {t : ByteArray} {n : Int} {w w' : World} (h : decOf t = some n) (hb : Below w.heap.size w w') : DecRd t w (.returned (.tuple #[.int .i64 n, .bool true])) w' := ⟨by rw [h]; rfl, hb⟩
theorem accD_take (t : ByteArray) (k : Nat) (hk : k < t.size) : accD 0 (t.data.toList.take (k + 1)) = if isDig t[k] then 10 * accD 0 (t.data.toList.take k) + (t[k].toNat - 48) else accD 0 (t.data.toList.take k) := by
  have hk' : k < t.data.toList.length := hk
  rw [List.take_succ_eq_append_getElem hk', accD_append]
  show (if isDig (t.data.toList[k]'hk') then _ else _) = _
  have e : t.data.toList[k]'hk' = t[k] := by
    show _ = t.data[k]
    simp
  rw [e]
theorem accD_all (t : ByteArray) : accD 0 (t.data.toList.take t.size) = accD 0 t.data.toList := by
  rw [List.take_of_length_le (show t.data.toList.length ≤ t.size from Nat.le_refl _)]
theorem negB_at (t : ByteArray) (h : 0 < t.size) : negB t = (t[0] == 45) := by
  unfold negB
  have h' : 0 < t.data.toList.length := h
  cases e : t.data.toList with
  | nil => rw [e] at h'; cases h'
  | cons c r =>
    have : t[0] = c := by
      have h2 : t.data.toList[0]'h' = c := by simp [e]
      rw [← h2]; show t.data[0] = _; simp
    simp only []
    rw [this]
set_option maxRecDepth 100000 in
set_option maxHeartbeats 1000000 in
theorem s_l01Value (t : ByteArray) (w : World) (hs : t.size ≤ 1048577) : Calls Tryz.prog 32 #[.string t] w (DecRd t w) := by
  by_cases hl : 1 ≤ t.size ∧ t.size ≤ 17
  case neg =>
    have HNO : Hid (decOf t = none) := decOf_none fun n hn e => by
      have := decB_size17 hn
      rw [e] at this; exact hl this
    by_cases hl1 : t.size < 1
    · have q1 : ((t.size : Int) < 1) := by omega
      clear hl
      go_enter Tryz.func32, Tryz.ntmps32
      go_wp2
      go_ret2
      exact DecRd.no HNO.out (by repeat (first | exact Below.refl _ _ | assumption | refine below_drewN ?_ _ | refine below_alloc (Nat.le_refl _) ?_ _ | (refine Below.setCell ?_ (by first | exact Nat.le_refl _ | (simp; done) | (simp; omega) | omega) _) | (refine below_step (Nat.le_refl _) ?_ (by assumption))))
    · have q1 : ¬ ((t.size : Int) < 1) := by omega
      have q2 : (17 : Int) < (t.size : Int) := by omega
      clear hl
      go_enter Tryz.func32, Tryz.ntmps32
      go_wp2
      go_ret2
      exact DecRd.no HNO.out (by repeat (first | exact Below.refl _ _ | assumption | refine below_drewN ?_ _ | refine below_alloc (Nat.le_refl _) ?_ _ | (refine Below.setCell ?_ (by first | exact Nat.le_refl _ | (simp; done) | (simp; omega) | omega) _) | (refine below_step (Nat.le_refl _) ?_ (by assumption))))
  case pos =>
    obtain ⟨l1, l2⟩ := hl
    have q1 : ¬ ((t.size : Int) < 1) := by omega
    have q2 : ¬ ((17 : Int) < (t.size : Int)) := by omega
    have HS := Lib.hid hs
    clear hs
    go_enter Tryz.func32, Tryz.ntmps32
    go_wp2_with fail
    go_loopw [4, 5] (fun n i wr => ∃ k m : Nat, k ≤ t.size ∧ i = .int .i64 (k : Int) ∧ n = .int .i64 ((accD 0 (t.data.toList.take k) : Nat) : Int) ∧ wr = w.drewN m) (fun _ i _ => t.size - (RowKit.intOf i).toNat)
    case atStart => exact ⟨0, 0, Nat.zero_le _, rfl, rfl, rfl⟩
    case round =>
      obtain ⟨k, m, hk, rfl, rfl, rfl⟩ := hrel
      by_cases hlt : k < t.size
      · have hT := Lib.hid (accD_take t k hlt)
        have hb := accD_lt (t.data.toList.take k) 0 0 (by decide)
        have hb2 : accD 0 (t.data.toList.take k) < 10 ^ 17 := Nat.lt_of_lt_of_le hb (Nat.pow_le_pow_right (by decide) (by simp; omega))
        have hu : t[k].toNat < 256 := t[k].toNat_lt
        have hkk : (k : Int) < (t.size : Int) := by omega
        clear hb
        generalize accD 0 (t.data.toList.take k) = c at *
        unfold isDig at hT
        by_cases h48 : 48 ≤ t[k].toNat
        · have h48i : (48 : Int) ≤ (t[k].toNat : Int) := by omega
          by_cases h57 : t[k].toNat ≤ 57
          · have h57i : (t[k].toNat : Int) ≤ 57 := by omega
            have hT2 : Hid (accD 0 (t.data.toList.take (k + 1)) = 10 * c + (t[k].toNat - 48)) := by show _ = _; rw [hT.out]; simp [h48, h57]
            clear hT
            go_wp2
            go_roundw
            case rel => exact ⟨k + 1, _, by omega, by go_num, by rw [hT2.out]; congr 1; omega, rfl⟩
            case measure => simp [RowKit.intOf]; omega
          · have h57i : ¬ (t[k].toNat : Int) ≤ 57 := by omega
            have hT2 : Hid (accD 0 (t.data.toList.take (k + 1)) = c) := by show _ = _; rw [hT.out]; simp [h48, h57]
            clear hT
            go_wp2
            go_roundw
            case rel => exact ⟨k + 1, _, by omega, by go_num, by rw [hT2.out], rfl⟩
            case measure => simp [RowKit.intOf]; omega
        · have h48i : ¬ (48 : Int) ≤ (t[k].toNat : Int) := by omega
          have hT2 : Hid (accD 0 (t.data.toList.take (k + 1)) = c) := by show _ = _; rw [hT.out]; simp [h48]
          clear hT
          go_wp2
          go_roundw
          case rel => exact ⟨k + 1, _, by omega, by go_num, by rw [hT2.out], rfl⟩
          case measure => simp [RowKit.intOf]; omega
      · obtain rfl : k = t.size := by omega
        rw [accD_all]
        have hb := accD_lt t.data.toList 0 0 (by decide)
        have hb2 : accD 0 t.data.toList < 10 ^ 17 := Nat.lt_of_lt_of_le hb (Nat.pow_le_pow_right (by decide) (by show 0 + t.size ≤ 17; omega))
        have h0 : 0 < t.size := by omega
        have hng := negB_at t h0
        have HA : Hid (accB t = if negB t then -((accD 0 t.data.toList : Nat) : Int) else ((accD 0 t.data.toList : Nat) : Int)) := rfl
        have h0i : (0 : Int) < (t.size : Int) := by omega
        have HD : Hid (decOf t = if inV (accB t) && decide (decB (accB t) = t) then some (accB t) else none) := rfl
        clear hb hlt
        generalize accD 0 t.data.toList = c at *
        generalize accB t = N at *
        cases hc : (t[0] == 45)
        all_goals
          have hci : ((t[0].toNat : Int) == 45) = (t[0] == 45) := by
            rw [Bool.eq_iff_iff, beq_iff_eq, beq_iff_eq]
            constructor
            · intro h; exact UInt8.toNat_inj.1 (by show _ = 45; omega)
            · intro h; rw [h]; rfl
          rw [hng, hc] at HA
          rw [hc] at hci
          simp only [if_true, if_false, Bool.false_eq_true] at HA
          have HN := Lib.hid (show N = _ from HA.out)
          clear hng hc HA
          cases hv : inV N
          · have HNO : Hid (decOf t = none) := by show _ = _; rw [HD.out, hv]; rfl
            have HIN := Lib.hid (fun W => s_l00In N (-1000000000000000) 1000000000000000 W)
            rw [inV_B, hv] at HIN
            rw [HN.out] at HIN
            clear hv HD
            go_wp2_with fail
            refine (HIN.out _).mono ?_
            rintro e w1 ⟨rfl, n1, rfl⟩
            go_wp2
            go_ret2
            exact DecRd.no HNO.out (by repeat (first | exact Below.refl _ _ | assumption | refine below_drewN ?_ _ | refine below_alloc (Nat.le_refl _) ?_ _ | (refine Below.setCell ?_ (by first | exact Nat.le_refl _ | (simp; done) | (simp; omega) | omega) _) | (refine below_step (Nat.le_refl _) ?_ (by assumption))))
          · have HIN := Lib.hid (fun W => s_l00In N (-1000000000000000) 1000000000000000 W)
            rw [inV_B, hv] at HIN
            have HDV := Lib.hid (fun W => s_l01DecV N W hv)
            rw [HN.out] at HIN HDV
            rw [hv, Bool.true_and] at HD
            rw [HN.out] at HD
            clear hv HN
            go_wp2_with fail
            refine (HIN.out _).mono ?_
            rintro e w1 ⟨rfl, n1, rfl⟩
            go_wp2_with fail
            refine (HDV.out _).mono ?_
            rintro e w2 ⟨rfl, hb⟩
            have HB : Hid (Below w.heap.size w w2) := below_step (Nat.le_refl _) (by repeat (first | exact Below.refl _ _ | assumption | refine below_drewN ?_ _ | refine below_alloc (Nat.le_refl _) ?_ _ | (refine Below.setCell ?_ (by first | exact Nat.le_refl _ | (simp; done) | (simp; omega) | omega) _) | (refine below_step (Nat.le_refl _) ?_ (by assumption)))) hb
            clear hb
            have hte := toList_eq
            go_wp2_with fail
            all_goals
              rename_i hq
              simp at hq
              go_ret2
              first
                | exact DecRd.ok (by rw [HD.out]; simp [hq]) HB.out
                | exact DecRd.no (by rw [HD.out]; simp [hq]) HB.out
theorem i_DecimalV (n : Int) (w : World) (h0 : -9223372036854775808 ≤ n) (h1 : n ≤ 9223372036854775807) (ht : TabP w) : Calls Tryz.prog 39 #[.int .i64 n] w fun e w' => e = .returned (.string (decB n)) ∧ Below w.heap.size w w' := by
  have HT := Lib.hid ht
  have H := Lib.hid (fun W (hT : TabP W) => Tryz.strconv_FormatInt_10 n h0 h1 W hT)
  clear ht h0 h1
  go_enter Tryz.func39, Tryz.ntmps39
  go_wp2_with fail
  refine (H.out _ HT.out).mono ?_
  rintro e w' ⟨rfl, k, os, rfl⟩
  go_wp2
  go_ret
  exact ⟨rfl, below_regrown _ _ _⟩
theorem i_isValue (n : Int) (w : World) : Calls Tryz.prog 38 #[.int .i64 n] w fun e w' => e = .returned (.bool (inV n)) ∧ ∃ k, w' = w.drewN k := by
  have H := Lib.hid (fun W => i_withinT n (-1000000000000000) 1000000000000000 W)
  rw [inV_B] at H
  go_enter Tryz.func38, Tryz.ntmps38
  go_wp2_with fail
  refine (H.out _).mono ?_
  rintro e w' ⟨rfl, k, rfl⟩
  go_wp2
  go_ret
  exact ⟨rfl, _, rfl⟩
set_option maxRecDepth 100000 in
set_option maxHeartbeats 1000000 in
theorem f_ParseInt_any (t : ByteArray) (hs : t.size ≤ 1048577) (w : World) (hg : RG w) :
    Calls Tryz.prog 37 #[.string t, .int .i64 10, .int .i64 64] w fun e w' => (∃ (m : Int) (ev : Value), e = .returned (.tuple #[.int .i64 m, ev]) ∧ -9223372036854775808 ≤ m ∧ m ≤ 9223372036854775807 ∧ ((ev = .nilIface ∧ parseIntB 64 t.data.toList = .ok m) ∨ ((∃ te pe, ev = .iface te pe) ∧ ∀ v, parseIntB 64 t.data.toList ≠ .ok v))) ∧ Below w.heap.size w w' := by
  rcases hp : parseIntB 64 t.data.toList with v | _ | _
  ·
    refine (Tryz.strconv_ParseInt_10_at64_ok t (by omega) v hp w).mono ?_
    rintro e w' ⟨rfl, hw⟩
    have hbd := parseIntB_bounds hp
    refine ⟨⟨v, _, rfl, by omega, by omega, .inl ⟨rfl, rfl⟩⟩, ?_⟩
    rcases hw with rfl | ⟨x, rfl⟩
    · exact Below.refl _ _
    · exact Lib.bytesWorld_below _ _ _
  ·
    obtain ⟨ev, c1, k1⟩ := hg.syn
    refine (Tryz.strconv_ParseInt_10_at64_syntax t (by omega) hp ev w c1 k1).mono ?_
    rintro e w' ⟨N, rfl, -, -, hb⟩
    exact ⟨⟨0, _, rfl, by omega, by omega, .inr ⟨⟨_, _, rfl⟩, fun v h => by cases h⟩⟩, hb⟩
  ·
    obtain ⟨ev, c1, k1⟩ := hg.ran
    refine (Tryz.strconv_ParseInt_10_at64_range t (by omega) hp ev w c1 k1).mono ?_
    rintro e w' ⟨N, rfl, -, -, hb⟩
    have := Lib.atoiSat_bounds t.data.toList
    rw [Lib.intSat_64]
    exact ⟨⟨_, _, rfl, this.1, this.2, .inr ⟨⟨_, _, rfl⟩, fun v h => by cases h⟩⟩, hb⟩
set_option maxRecDepth 100000 in
set_option maxHeartbeats 1000000 in
theorem i_ReadDecimal (t : ByteArray) (hs : t.size ≤ 1048577) (w : World) (hg : RG w) (ht : TabP w) : Calls Tryz.prog 16 #[.string t] w (DecRd t w) := by
  have HP := Lib.hid (f_ParseInt_any t hs w hg)
  have HT := Lib.hid ht
  clear hs hg ht
  go_enter Tryz.func16, Tryz.ntmps16
  go_wp2_with fail
  refine HP.out.mono ?_
  rintro e w1 ⟨⟨m, ev, rfl, m0, m1, hev⟩, hb⟩
  have HB := Lib.hid hb
  have HT1 := Lib.hid (TabP_below HT.out hb)
  clear hb HP HT
  rcases hev with ⟨rfl, hp⟩ | ⟨⟨te, pe, rfl⟩, hp⟩
  · have HI := Lib.hid (fun W => i_isValue m W)
    have HX := Lib.hid (fun W hT => i_DecimalV m W m0 m1 hT)
    cases hv : inV m
    · have HNO : Hid (decOf t = none) := by
        show _ = _
        cases hd : decOf t with
        | none => rfl
        | some n =>
          have h1 := parse_of hd
          rw [hp] at h1
          cases h1
          rw [((decOf_iff t m).1 hd).1] at hv
          cases hv
      rw [hv] at HI
      clear hv hp m0 m1 HX
      go_wp2_with fail
      refine (HI.out _).mono ?_
      rintro e w2 ⟨rfl, n2, rfl⟩
      go_wp2
      go_ret2
      exact DecRd.no HNO.out (below_drewN HB.out _)
    · have HD : Hid (∀ h : decB m = t, decOf t = some m) := fun h => (decOf_iff t m).2 ⟨hv, h⟩
      have HE : Hid (∀ h : ¬ decB m = t, decOf t = none) := fun h => by
        cases hd : decOf t with
        | none => rfl
        | some n =>
          have h1 := parse_of hd
          rw [hp] at h1
          cases h1
          exact absurd ((decOf_iff t m).1 hd).2 h
      rw [hv] at HI
      clear hv hp m0 m1
      go_wp2_with fail
      refine (HI.out _).mono ?_
      rintro e w2 ⟨rfl, n2, rfl⟩
      go_wp2_with fail
      refine (HX.out _ (TabP_below HT1.out (below_drewN (Below.refl _ _) _))).mono ?_
      rintro e w3 ⟨rfl, hb⟩
      have HB3 : Hid (Below w.heap.size w w3) := below_step (Nat.le_refl _) (below_drewN HB.out _) hb
      clear hb
      have hte := toList_eq
      go_wp2_with fail
      all_goals
        rename_i hq
        simp at hq
        go_ret2
        first
          | exact DecRd.ok (HD.out hq) HB3.out
          | exact DecRd.no (HE.out hq) HB3.out
  · have HNO : Hid (decOf t = none) := by
      show _ = _
      cases hd : decOf t with
      | none => rfl
      | some n => exact absurd (parse_of hd) (hp n)
    clear hp m0 m1
    go_wp2
    go_ret2
    exact DecRd.no HNO.out HB.out
end Go.Proofs.YtpkkgfjjnggijaaGreatDoor
