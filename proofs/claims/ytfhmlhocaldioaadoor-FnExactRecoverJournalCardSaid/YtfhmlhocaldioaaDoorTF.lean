/- Walks: journals of lines. -/
import Derived.Test.YtfhmlhocaldioaaDoorTE
import Derived.Test.YtfhmlhocaldioaaDoorR
namespace Go.Proofs.YtfhmlhocaldioaaDoor
set_option linter.unusedSimpArgs false
set_option linter.unusedVariables false
open Go.RowKit Go.Fl Go.Tx Go.Lib
theorem lenTo_mono (ss : List ByteArray) (k : Nat) : ∀ j, lenTo ss k ≤ lenTo ss (k + j)
  | 0 => Nat.le_refl _
  | j + 1 => by
    have h1 := lenTo_mono ss k j
    show _ ≤ lenTo ss (k + j) + _
    omega
theorem lenTo_le (ss : List ByteArray) (k : Nat) (hk : k ≤ ss.length) : lenTo ss k ≤ lenTo ss ss.length := by
  have := lenTo_mono ss k (ss.length - k)
  rwa [show k + (ss.length - k) = ss.length by omega] at this
set_option maxHeartbeats 1000000 in
theorem s_l08Journal (v : Value) (ss : List ByteArray) (w : World) (hx : RS w v ss) (hl : ss.length ≤ 1048576) (hss : ∀ s ∈ ss, s.size ≤ 1048576) (htot : lenTo ss ss.length ≤ 16000) :
    Calls Tryd.prog 19 #[v] w fun e w' => e = .returned (.string (jAt ss ss.length).1) ∧ Below w.heap.size w w' := by
  obtain ⟨p1, cap1, rfl, hm1, hc1⟩ := hx
  go_enter Tryd.func19, Tryd.ntmps19
  go_wp2_with fail
  go_loopw [3, 4, 5] (fun t n i wr => ∃ k : Nat, k ≤ ss.length ∧ i = .int .i64 k ∧ n = .int .i64 (jAt ss k).2 ∧ t = .string (jAt ss k).1 ∧ Below w.heap.size w wr) (fun _ _ i _ => ss.length - (RowKit.intOf i).toNat)
  case atStart => exact ⟨0, Nat.zero_le _, rfl, rfl, rfl, (by repeat (first | exact Below.refl _ _ | assumption | refine below_drewN ?_ _ | refine below_alloc (Nat.le_refl _) ?_ _ | (refine Below.setCell ?_ (by first | exact Nat.le_refl _ | (simp; done) | (simp; omega) | omega) _) | (refine below_step (Nat.le_refl _) ?_ (by assumption))))⟩
  case round =>
    obtain ⟨k, hk, rfl, rfl, rfl, hb⟩ := hrel
    by_cases hlt : k < ss.length
    · obtain ⟨b, off, rfl, hcell⟩ := hc1.resolve_left (by omega)
      have h0 : w.cell? ⟨b, off + k, none⟩ = some (.string ss[k]) := hcell k _ (by simp [hlt])
      have h1 : wr.cell? ⟨b, off + k, none⟩ = some (.string ss[k]) := (hb.cell (p := ⟨b, off + k, none⟩) (block_lt_of_cell h0)).trans h0
      have hsz := hss _ (List.getElem_mem hlt)
      obtain ⟨n0, n1⟩ := jAt_bound ss k
      have ht1 := jAt_size_le ss k
      have ht2 := lenTo_le ss k hk
      have HT := Lib.hid (jAt_succ ss k hlt)
      have HB := Lib.hid hb
      clear hcell hc1 h0 hb
      generalize (jAt ss k).1 = t at *
      generalize (jAt ss k).2 = n at *
      generalize ss[k] = s at *
      go_wp2_with fail
      refine (s_l01Check s n _ n0 n1 hsz).mono ?_
      rintro e w1 ⟨rfl, m1, rfl⟩
      obtain ⟨c0, c1⟩ := chk_bound n s n0 n1
      have HJ : Hid (jLine n s = decB (chk n s) ++ ⟨#[32]⟩ ++ s ++ ⟨#[10]⟩) := rfl
      have hd := (decB_size (chk n s) c0 c1).2
      generalize chk n s = c at *
      have q1 : ¬ 9223372036854775807 < (decB c).size + 1 := by omega
      have q2 : ¬ 9223372036854775807 < (decB c).size + 1 + s.size := by omega
      have q3 : ¬ 9223372036854775807 < (decB c).size + 1 + s.size + 1 := by omega
      have q4 : ¬ 9223372036854775807 < t.size + ((decB c).size + 1 + s.size + 1) := by omega
      have hL : ∀ x : Later (wr.drewN m1), x.to.cell? ⟨b, off + k, none⟩ = some (.string s) := fun x => (x.below.cell (p := ⟨b, off + k, none⟩) (block_lt_of_cell h1)).trans h1
      go_wp2_with fail
      ((refine wp_region_rl_lit (fun _ _ u => u = .string (decB c)) (by kernel_rfl) (by kernel_rfl) ?_); (iterate 2 (refine wpRl_det' (by kernel_rfl) (fun K hK => ?_); go_simp; refine hK _ ?_; clear hK K)); (refine wpRl_call1 (f := 29) (X := .int .i64 c) rfl (by kernel_rfl) rfl (run_enter Tryd.func29 (by kernel_rfl) rfl) (fun x => (s_l01Dec c _ c0 c1).mono (fun e w' ⟨he, hn⟩ => ⟨_, he, rfl, hn⟩)) ?_; intro v hv; subst hv); (iterate 9 (refine wpRl_det' (by kernel_rfl) (fun K hK => ?_); go_simp; refine hK _ ?_; clear hK K)); (refine wpRq_nil ?_); intro w' hb)
      go_wp2
      go_roundw
      case rel => exact ⟨k + 1, by omega, by go_num, by rw [HT.out], by rw [HT.out, HJ.out], below_step (Nat.le_refl _) (below_drewN HB.out _) hb⟩
      case measure => simp [RowKit.intOf]; omega
    · obtain rfl : k = ss.length := by omega
      go_wp2
      go_ret
      exact ⟨rfl, hb⟩
/-- The first j bytes of a text are no ends of lines. -/
theorem noNl_of {s : ByteArray} (h : ∀ j (hj : j < s.size), s[j] ≠ 10) : noNl s := by
  intro hm
  obtain ⟨j, hj⟩ := List.mem_iff_getElem?.1 hm
  have hlt : j < s.size := by rw [size_eq]; exact (List.getElem?_eq_some_iff.1 hj).1
  rw [byte_at s j hlt] at hj
  exact h j hlt (Option.some.inj hj)
theorem nl_of {s : ByteArray} {j : Nat} (hj : j < s.size) (h : s[j] = 10) : ¬ noNl s := by
  intro hn
  apply hn
  have := byte_at s j hj
  rw [h] at this
  exact List.mem_of_getElem? this
theorem JGood.mk {ss : List ByteArray} (h : ∀ j (hj : j < ss.length), noNl ss[j]) (h2 : (jAt ss ss.length).1.size ≤ 16000) : JGood ss := ⟨fun s hs => by
  obtain ⟨j, hj⟩ := List.mem_iff_getElem?.1 hs
  obtain ⟨h3, rfl⟩ := List.getElem?_eq_some_iff.1 hj
  exact h j h3, h2⟩
set_option maxHeartbeats 1000000 in
theorem s_JournalOf (v : Value) (ss : List ByteArray) (w : World) (hx : RS w v ss) (hl : ss.length ≤ 1048576) (hss : ∀ s ∈ ss, s.size ≤ 1048576) :
    Calls Tryd.prog 9 #[v] w fun e w' => JOut ss e ∧ Below w.heap.size w w' := by
  have HX := Lib.hid hx
  have HSS := Lib.hid hss
  obtain ⟨p1, cap1, rfl, hm1, hc1⟩ := hx
  clear hss
  go_enter Tryd.func9, Tryd.ntmps9
  go_wp2_with fail
  go_loopw [4, 5] (fun t i wr => ∃ k n : Nat, k ≤ ss.length ∧ i = .int .i64 k ∧ t = .int .i64 (lenTo ss k : Nat) ∧ wr = w.drewN n ∧ lenTo ss k ≤ 16000 ∧ Hid (∀ j (hj : j < ss.length), j < k → noNl ss[j])) (fun _ i _ => ss.length - (RowKit.intOf i).toNat)
  case atStart => exact ⟨0, 0, Nat.zero_le _, rfl, rfl, rfl, Nat.zero_le _, fun j _ h => absurd h (Nat.not_lt_zero _)⟩
  case round =>
    obtain ⟨k, n, hk, rfl, rfl, rfl, hle, hno⟩ := hrel
    by_cases hlt : k < ss.length
    · obtain ⟨b, off, rfl, hcell⟩ := hc1.resolve_left (by omega)
      have h0 : w.cell? ⟨b, off + k, none⟩ = some (.string ss[k]) := hcell k _ (by simp [hlt])
      have hsz := HSS.out _ (List.getElem_mem hlt)
      have hT := lenTo_succ ss k hlt
      have HT := Lib.hid hT
      have HN : Hid (∀ j (hj : j < ss[k].size), ss[k][j] = 10 → ¬ JGood ss) := fun j hj h => not_good_nl hlt (nl_of hj h)
      have HK : Hid (noNl ss[k] → ∀ j (hj : j < ss.length), j < k + 1 → noNl ss[j]) := fun h j hj h2 => by
        by_cases e : j = k
        · subst e; exact h
        · exact hno.out j hj (by omega)
      by_cases hbig : 16000 < lenTo ss k + (ss[k].size + 3)
      · have HG : Hid (¬ JGood ss) := not_good_len (k := k + 1) (by omega) (by omega)
        generalize lenTo ss k = L at *
        generalize ss[k] = s at *
        have q1 : (16000 : Int) < (L : Int) + ((s.size : Int) + 3) := by omega
        clear hcell hc1 hT HT HN HK HSS hno hbig
        go_wp2_with fail
        go_ret2
        exact ⟨JOut.no HG.out, (by repeat (first | exact Below.refl _ _ | assumption | refine below_drewN ?_ _ | refine below_alloc (Nat.le_refl _) ?_ _ | (refine Below.setCell ?_ (by first | exact Nat.le_refl _ | (simp; done) | (simp; omega) | omega) _) | (refine below_step (Nat.le_refl _) ?_ (by assumption))))⟩
      · rw [← hT] at hbig
        have HQ : Hid (lenTo ss (k + 1) ≤ 16000) := by show _ ≤ _; omega
        clear hbig hT hcell hc1
        have q0 : lenTo ss (k + 1) ≤ 16000 := HQ.out
        rw [HT.out] at q0
        generalize lenTo ss k = L at *
        generalize ss[k] = s at *
        have q1 : ¬ (16000 : Int) < (L : Int) + ((s.size : Int) + 3) := by omega
        clear q0 HSS HQ
        go_wp2_with fail
        go_loopw [6] (fun i wr => ∃ j m : Nat, j ≤ s.size ∧ i = .int .i64 j ∧ wr = w.drewN m ∧ Hid (∀ i (hi : i < s.size), i < j → s[i] ≠ 10)) (fun i _ => s.size - (RowKit.intOf i).toNat)
        case atStart => exact ⟨0, _, Nat.zero_le _, rfl, rfl, fun i _ h => absurd h (Nat.not_lt_zero _)⟩
        case round =>
          obtain ⟨j, m, hj, rfl, rfl, hnl⟩ := hrel
          by_cases hjl : j < s.size
          · have hcmp : (((s[j].toNat : Nat) : Int) == 10) = decide (s[j] = 10) := byte_eq s[j] 10
            by_cases hc : s[j] = 10
            · have HG := Lib.hid (HN.out j hjl hc)
              have hcmp' : (((s[j].toNat : Nat) : Int) == 10) = true := by rw [hcmp]; simpa using hc
              clear hcmp hc HN HK HT hnl hno
              go_wp2
              go_ret2
              exact ⟨JOut.no HG.out, (by repeat (first | exact Below.refl _ _ | assumption | refine below_drewN ?_ _ | refine below_alloc (Nat.le_refl _) ?_ _ | (refine Below.setCell ?_ (by first | exact Nat.le_refl _ | (simp; done) | (simp; omega) | omega) _) | (refine below_step (Nat.le_refl _) ?_ (by assumption))))⟩
            · have hcmp' : (((s[j].toNat : Nat) : Int) == 10) = false := by rw [hcmp]; simpa using hc
              have HC : Hid (∀ i (hi : i < s.size), i < j + 1 → s[i] ≠ 10) := fun i hi h => by
                by_cases e : i = j
                · subst e; exact hc
                · exact hnl.out i hi (by omega)
              clear hcmp hc HN HK hnl hno
              go_wp2
              go_roundw
              case rel => exact ⟨j + 1, _, by omega, by go_num, rfl, HC⟩
              case measure => simp [RowKit.intOf]; omega
          · have HR := Lib.hid (HK.out (noNl_of fun i hi => hnl.out i hi (by omega)))
            clear HN HK hnl hno
            go_wp2
            go_roundw
            case rel => exact ⟨k + 1, _, by omega, by go_num, by rw [HT.out]; go_num, rfl, by rw [HT.out]; omega, HR⟩
            case measure => simp [RowKit.intOf]; omega
    · obtain rfl : k = ss.length := by omega
      clear hc1
      go_wp2_with fail
      refine (s_l08Journal _ ss (w.drewN n) (RS_below HX.out (below_drewN (Below.refl _ _) _)) hl HSS.out hle).mono ?_
      rintro e w1 ⟨rfl, hb⟩
      by_cases hsz : (jAt ss ss.length).1.size ≤ 16000
      · have HG : Hid (JGood ss) := JGood.mk (fun j hj => hno.out j hj hj) hsz
        have HE := JOut.ok HG.out
        generalize (jAt ss ss.length).1 = t at *
        go_wp2
        go_ret2
        exact ⟨HE, (by repeat (first | exact Below.refl _ _ | assumption | refine below_drewN ?_ _ | refine below_alloc (Nat.le_refl _) ?_ _ | (refine Below.setCell ?_ (by first | exact Nat.le_refl _ | (simp; done) | (simp; omega) | omega) _) | (refine below_step (Nat.le_refl _) ?_ (by assumption))))⟩
      · have HG : Hid (¬ JGood ss) := not_good_size (Nat.le_refl _) (by omega)
        generalize (jAt ss ss.length).1 = t at *
        have q1 : (16000 : Int) < (t.size : Int) := by omega
        clear hsz
        go_wp2
        go_ret2
        exact ⟨JOut.no HG.out, (by repeat (first | exact Below.refl _ _ | assumption | refine below_drewN ?_ _ | refine below_alloc (Nat.le_refl _) ?_ _ | (refine Below.setCell ?_ (by first | exact Nat.le_refl _ | (simp; done) | (simp; omega) | omega) _) | (refine below_step (Nat.le_refl _) ?_ (by assumption))))⟩
set_option maxHeartbeats 1000000 in
theorem i_JournalOf (v : Value) (ss : List ByteArray) (w : World) (hx : RS w v ss) (hl : ss.length ≤ 1048576) (hss : ∀ s ∈ ss, s.size ≤ 1048576) (ht : TabP w) (M : Int) (hsh : w.cell? ⟨0, 0, none⟩ = some (.int .i64 M)) :
    Calls Tryd.prog 11 #[v] w fun e w' => JOut ss e ∧ Below w.heap.size w w' := by
  have HT := Lib.hid ht
  have HM : Hid (w.cell? ⟨0, 0, none⟩ = some (.int .i64 M)) := hsh
  have HSS := Lib.hid hss
  obtain ⟨p1, cap1, rfl, hm1, hc1⟩ := hx
  clear hss ht hsh
  go_enter Tryd.func11, Tryd.ntmps11
  go_wp2_with fail
  go_loopw [4, 5, 11] (fun t n i wr => ∃ k : Nat, k ≤ ss.length ∧ i = .int .i64 k ∧ n = .int .i64 (jAt ss k).2 ∧ t = .string (jAt ss k).1 ∧ Below w.heap.size w wr ∧ (jAt ss k).1.size ≤ 16000 ∧ Hid (∀ j (hj : j < ss.length), j < k → noNl ss[j])) (fun _ _ i _ => ss.length - (RowKit.intOf i).toNat)
  case atStart => exact ⟨0, Nat.zero_le _, rfl, rfl, rfl, (by repeat (first | exact Below.refl _ _ | assumption | refine below_drewN ?_ _ | refine below_alloc (Nat.le_refl _) ?_ _ | (refine Below.setCell ?_ (by first | exact Nat.le_refl _ | (simp; done) | (simp; omega) | omega) _) | (refine below_step (Nat.le_refl _) ?_ (by assumption)))), Nat.zero_le _, fun j _ h => absurd h (Nat.not_lt_zero _)⟩
  case round =>
    obtain ⟨k, hk, rfl, rfl, rfl, hb, hle, hno⟩ := hrel
    by_cases hlt : k < ss.length
    · obtain ⟨b, off, rfl, hcell⟩ := hc1.resolve_left (by omega)
      have h0 : w.cell? ⟨b, off + k, none⟩ = some (.string ss[k]) := hcell k _ (by simp [hlt])
      have h1 : wr.cell? ⟨b, off + k, none⟩ = some (.string ss[k]) := (hb.cell (p := ⟨b, off + k, none⟩) (block_lt_of_cell h0)).trans h0
      have hsz := HSS.out _ (List.getElem_mem hlt)
      obtain ⟨n0, n1⟩ := jAt_bound ss k
      have hj := (jLine_size (jAt ss k).2 ss[k] n0 n1).2
      have HJ := Lib.hid (jAt_succ ss k hlt)
      have HB := Lib.hid hb
      have HN : Hid (¬ noNl ss[k] → ¬ JGood ss) := fun h => not_good_nl hlt h
      have HS : Hid (16000 < (jAt ss (k + 1)).1.size → ¬ JGood ss) := fun h => not_good_size (k := k + 1) (by omega) h
      rw [HJ.out] at HS
      have HK : Hid (noNl ss[k] → ∀ j (hj : j < ss.length), j < k + 1 → noNl ss[j]) := fun h j hj h2 => by
        by_cases e : j = k
        · subst e; exact h
        · exact hno.out j hj (by omega)
      have HC : Hid (contains ss[k].data.toList (⟨#[10]⟩ : ByteArray).data.toList = true ↔ ¬ noNl ss[k]) := contains_nl ss[k]
      clear hcell hc1 h0 hb hno HSS
      generalize (jAt ss k).1 = t at *
      generalize (jAt ss k).2 = n at *
      generalize ss[k] = s at *
      go_wp2_with fail
      refine (i_journalLine s n _ n0 n1 hsz (TabP_below HT.out HB.out)).mono ?_
      rintro e w1 ⟨rfl, hb⟩
      have HB1 := Lib.hid (below_step (Nat.le_refl _) HB.out hb)
      have HM1 : Hid (w1.cell? ⟨0, 0, none⟩ = some (.int .i64 M)) := (HB1.out.cell (p := ⟨0, 0, none⟩) (block_lt_of_cell HM.out)).trans HM.out
      clear hb
      generalize jLine n s = J at *
      generalize chk n s = c at *
      go_wp2_with fail
      refine (Tryd.strings_Contains s ⟨#[10]⟩ M _ (by omega) HM1.out).mono ?_
      rintro e w2 ⟨rfl, rfl⟩
      cases hcon : contains s.data.toList (⟨#[10]⟩ : ByteArray).data.toList
      · have hn : noNl s := by
          rcases Classical.em (noNl s) with h | h
          · exact h
          · rw [HC.out.2 h] at hcon; cases hcon
        have HR := Lib.hid (HK.out hn)
        clear HK HC HN hn hcon
        by_cases hbig : 16000 < (t ++ J).size
        · have HG := Lib.hid (HS.out hbig)
          rw [size_app] at hbig
          have q1 : (16000 : Int) < (t.size : Int) + (J.size : Int) := by omega
          clear hbig HS HJ
          go_wp2
          go_ret2
          exact ⟨JOut.no HG.out, HB1.out⟩
        · rw [size_app] at hbig
          have q1 : ¬ (16000 : Int) < (t.size : Int) + (J.size : Int) := by omega
          clear hbig HS
          go_wp2
          go_roundw
          case rel => exact ⟨k + 1, by omega, by go_num, by rw [HJ.out], by rw [HJ.out], HB1.out, by rw [HJ.out, size_app]; omega, HR⟩
          case measure => simp [RowKit.intOf]; omega
      · have HG := Lib.hid (HN.out (HC.out.1 hcon))
        clear HK HC HN hcon HS HJ
        go_wp2
        go_ret2
        exact ⟨JOut.no HG.out, HB1.out⟩
    · obtain rfl : k = ss.length := by omega
      have HG : Hid (JGood ss) := JGood.mk (fun j hj => hno.out j hj hj) hle
      have HE := JOut.ok HG.out
      clear hc1 hno
      generalize (jAt ss ss.length).1 = t at *
      generalize (jAt ss ss.length).2 = n at *
      go_wp2
      go_ret2
      exact ⟨HE, hb⟩
end Go.Proofs.YtfhmlhocaldioaaDoor
