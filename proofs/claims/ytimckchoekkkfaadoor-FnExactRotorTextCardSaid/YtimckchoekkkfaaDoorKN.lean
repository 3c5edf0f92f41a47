/- Walks: the text of a rotor, both. -/
import Derived.Test.YtimckchoekkkfaaDoorKM
namespace Go.Proofs.YtimckchoekkkfaaDoor
set_option linter.unusedSimpArgs false
set_option linter.unusedVariables false
open Go.RowKit Go.Fl Go.Lib Go.Tx

theorem TextOut_eq {t t' : ByteArray} {w w' : World} (h : t = t') (hb : Below w.heap.size w w') : TextOut true t w (.returned (.tuple #[.string t', .bool true])) w' := by
  subst h; exact TextOut.ok rfl hb
theorem RT_alloc {w : World} {v : Value} {cs : List Sta} (h : RT w v cs) (o : Obj) : RT (w.alloc o) v cs := RT_below h (below_alloc (Nat.le_refl _) (Below.refl _ _) o)
theorem i_Decimal9 (n : Int) (h0 : 0 ≤ n) (h1 : n ≤ 9) (w : World) : Calls Tryd.prog 38 #[.int .i64 n] w fun e w' => e = .returned (.string (decB n)) ∧ Below w.heap.size w w' := by
  obtain ⟨k, rfl⟩ : ∃ k : Nat, n = k := ⟨n.toNat, by omega⟩
  have hd := decB_small k
  have HD := Lib.hid hd
  clear hd
  go_enter Tryd.func38, Tryd.ntmps38
  go_wp2_with fail
  refine (Tryd.strconv_FormatInt_10_small k (by omega) _).mono ?_
  rintro e w' ⟨rfl, rfl⟩
  go_wp2
  go_ret
  exact ⟨by rw [← HD.out]; rfl, (by repeat (first | exact Below.refl _ _ | assumption | refine below_drewN ?_ _ | refine below_alloc (Nat.le_refl _) ?_ _ | (refine Below.setCell ?_ (by first | exact Nat.le_refl _ | (simp; done) | (simp; omega) | omega) _) | (refine below_step (Nat.le_refl _) ?_ (by assumption))))⟩
set_option maxRecDepth 100000 in
set_option maxHeartbeats 2000000 in
theorem s_RotorText (va vl vd vs : Value) (a l d : List Nat) (cs : List Sta) (c : Int) (hub tip : Nat) (w : World) (ha : RF w va a) (hl : RF w vl l) (hd : RF w vd d) (hs : RT w vs cs)
    (ba : Bd a) (bl : Bd l) (bd : Bd d) (bs : Bd (staF cs)) (bz : Bd [hub, tip]) : Calls Tryd.prog 25 #[rotV va vl vd vs c hub tip] w (TextOut (rotOk (profOk a l d) cs c hub tip) (rotB a l d cs c hub tip) w) := by
  have HQ := Lib.hid (fun W k (hk : k = W.heap.size) t (hb : Below w.heap.size w W) => s_l03Is k va vl vd vs a l d cs c hub tip _ (rot_top W k hk va vl vd vs c hub tip t) ((RF_below ha hb).alloc _) ((RF_below hl hb).alloc _) ((RF_below hd hb).alloc _) (RT_alloc (RT_below hs hb) _))
  cases hok : rotOk (profOk a l d) cs c hub tip
  · rw [hok] at HQ
    clear hok
    go_enter Tryd.func25, Tryd.ntmps25
    go_wp2_with (go_at_call 51; refine (HQ.out _ _ rfl _ (Below.refl _ _)).mono ?_; rintro e w1 ⟨rfl, hb⟩)
    go_ret2
    exact TextOut.no rfl (below_step (Nat.le_refl _) (below_alloc (Nat.le_refl _) (Below.refl _ _) _) hb)
  · obtain ⟨hp, hls, hc0, hc1⟩ := rotOk_len hok
    obtain ⟨la, ll, ld⟩ := profLen_of hp
    have HR := Lib.hid (fun W g (h : RotAt W g va vl vd vs c hub tip) (hb : Below w.heap.size w W) => s_l08Rotor g va vl vd vs a l d cs c hub tip W h (RF_below ha hb) (RF_below hl hb) (RF_below hd hb) (RT_below hs hb) ba bl bd bs bz la ll ld hls hc0 hc1)
    rw [hok] at HQ
    clear hok la ll ld hp hls hc0 hc1
    go_enter Tryd.func25, Tryd.ntmps25
    go_wp2_with fail
    refine (HQ.out _ _ rfl _ (Below.refl _ _)).mono ?_
    rintro e w1 ⟨rfl, hb⟩
    have HA := Lib.hid ((rot_top w _ rfl va vl vd vs c hub tip 64).below hb)
    have HB := Lib.hid (below_step (Nat.le_refl _) (below_alloc (Nat.le_refl _) (Below.refl _ _) _) hb)
    clear hb
    go_wp2_with fail
    refine (HR.out _ _ HA.out HB.out).mono ?_
    rintro e w2 ⟨rfl, hb2⟩
    go_wp2
    go_ret2
    exact TextOut.ok rfl (below_step (Nat.le_refl _) HB.out hb2)
set_option maxRecDepth 100000 in
set_option maxHeartbeats 4000000 in
theorem i_RotorText (va vl vd vs : Value) (a l d : List Nat) (cs : List Sta) (c : Int) (hub tip : Nat) (w : World) (ha : RF w va a) (hl : RF w vl l) (hd : RF w vd d) (hs : RT w vs cs)
    (ba : Bd a) (bl : Bd l) (bd : Bd d) (bs : Bd (staF cs)) (bz : Bd [hub, tip]) (ht : T64 w) : Calls Tryd.prog 27 #[rotV va vl vd vs c hub tip] w (TextOut (rotOk (profOk a l d) cs c hub tip) (rotB a l d cs c hub tip) w) := by
  have HQ := Lib.hid (fun W (hb : Below w.heap.size w W) => i_ValidRotor va vl vd vs a l d cs c hub tip W (RF_below ha hb) (RF_below hl hb) (RF_below hd hb) (RT_below hs hb))
  have HAl : Hid (∀ o, Below w.heap.size w (w.alloc o)) := fun o => below_alloc (Nat.le_refl _) (Below.refl _ _) _
  cases hok : rotOk (profOk a l d) cs c hub tip
  · rw [hok] at HQ
    clear hok
    go_enter Tryd.func27, Tryd.ntmps27
    go_wp2_with fail
    refine (HQ.out _ (HAl.out _)).mono ?_
    rintro e w1 ⟨rfl, hb⟩
    have HB := Lib.hid (below_step (Nat.le_refl _) (HAl.out _) hb)
    clear hb
    go_wp2
    go_ret2
    exact TextOut.no rfl HB.out
  · obtain ⟨hp, hls, hc0, hc1⟩ := rotOk_len hok
    obtain ⟨la, ll, ld⟩ := profLen_of hp
    have H1 := Lib.hid (fun W (hb : Below w.heap.size w W) => i_profileText va vl vd a l d W (RF_below ha hb) (RF_below hl hb) (RF_below hd hb) ba bl bd la ll ld (T64_below ht hb))
    have H2 := Lib.hid (fun W v (h : RF W v (staF cs)) (hb : Below w.heap.size w W) => i_numbers v (staF cs) W h bs (by rw [staF_len]; omega) (T64_below ht hb))
    have H3 := Lib.hid (fun W => i_Decimal9 c (by omega) (by omega) W)
    have H4 := Lib.hid (fun W v (h : RF W v [hub, tip]) (hb : Below w.heap.size w W) => i_numbers v [hub, tip] W h bz (by simp) (T64_below ht hb))
    have z1 := profB_size la ll ld
    have z2 := textB_small (staF cs) 36 (by rw [staF_len]; omega)
    have z3 := decB_le6 (n := c) (by omega) (by omega)
    have z4 := textB_small [hub, tip] 2 (by simp)
    have HFIN : Hid (rotB a l d cs c hub tip = profB a l d ++ ⟨#[59]⟩ ++ textB (staF cs) ++ ⟨#[59]⟩ ++ decB c ++ ⟨#[59]⟩ ++ textB [hub, tip]) := rfl
    generalize profB a l d = T1 at *
    generalize textB (staF cs) = T2 at *
    generalize decB c = T3 at *
    generalize textB [hub, tip] = T4 at *
    have q1 : ¬ 9223372036854775807 < T1.size + 1 := by omega
    have q2 : ¬ 9223372036854775807 < T1.size + 1 + T2.size := by omega
    have q3 : ¬ 9223372036854775807 < T1.size + 1 + T2.size + 1 := by omega
    have q4 : ¬ 9223372036854775807 < T1.size + 1 + T2.size + 1 + T3.size := by omega
    have q5 : ¬ 9223372036854775807 < T1.size + 1 + T2.size + 1 + T3.size + 1 := by omega
    have q6 : ¬ 9223372036854775807 < T1.size + 1 + T2.size + 1 + T3.size + 1 + T4.size := by omega
    have LS := Lib.hid hls
    rw [hok] at HQ
    obtain ⟨ps, cp, rfl, hms, hcs⟩ := hs
    have HC := Lib.hid hcs
    clear hok ha hl hd ba bl bd bs bz z1 z2 z3 z4 la ll ld hls hc0 hc1 hcs hp ht
    go_enter Tryd.func27, Tryd.ntmps27
    go_wp2_with fail
    refine (HQ.out _ (HAl.out _)).mono ?_
    rintro e' w1 ⟨rfl, hb⟩
    have HR := Lib.hid ((rot_top w _ rfl va vl vd (.slice ps cs.length cp) c hub tip 64).below hb)
    have HB1 := Lib.hid (below_step (Nat.le_refl _) (HAl.out _) hb)
    clear hb
    obtain ⟨g, hg⟩ : ∃ g, g = w.heap.size := ⟨_, rfl⟩
    rw [← hg] at HR ⊢
    clear hg
    obtain ⟨-, h3, h4, h5, h6⟩ := HR.out
    have h3' : ∀ o, (w1.alloc o).cell? ⟨g, 3, none⟩ = some (.slice ps cs.length cp) := fun o => hcell_alloc h3 o
    go_wp2_with fail
    clear h3 h4 h5 h6 h3'
    go_loopw [4, 6, 14] (fun t _ i wr => ∃ k : Nat, k ≤ cs.length ∧ i = .int .i64 k ∧ OF w1.heap.size wr t (staF (cs.take k)) ∧ Below w1.heap.size w1 wr) (fun _ _ i _ => cs.length - (RowKit.intOf i).toNat)
    case atStart => exact ⟨0, Nat.zero_le _, rfl, OF_emptyK _ _ _ rfl (Nat.le_refl _) _ rfl, (by repeat (first | exact Below.refl _ _ | assumption | refine below_drewN ?_ _ | refine below_alloc (Nat.le_refl _) ?_ _ | (refine Below.setCell ?_ (by first | exact Nat.le_refl _ | (simp; done) | (simp; omega) | omega) _) | (refine below_step (Nat.le_refl _) ?_ (by assumption))))⟩
    case round =>
      obtain ⟨k, hk, rfl, ho, hb⟩ := hrel
      by_cases hlt : k < cs.length
      · obtain ⟨bs, os, rfl, gs⟩ := HC.out.resolve_left (by omega)
        obtain ⟨m0, m1, m2⟩ := ((StaAt_of gs k hlt).below HB1.out).below hb
        have HS : Hid (staF (cs.take (k + 1)) = staF (cs.take k) ++ [cs[k].ra, cs[k].ch, cs[k].tw]) := staF_succ cs k hlt
        have HL : Hid ((staF (cs.take k)).length + 3 ≤ 1048576) := by show _ ≤ _; have := LS.out; rw [staF_len, List.length_take]; omega
        have HB := Lib.hid hb
        have HO := Lib.hid ho
        clear gs hb ho
        generalize cs[k] = s at *
        obtain ⟨ra, ch, tw⟩ := s
        simp only at m0 m1 m2
        have HS2 : Hid (staF (cs.take (k + 1)) = staF (cs.take k) ++ [ra, ch, tw]) := HS.out
        clear HS
        generalize staF (cs.take k) = zs at *
        go_wp2_with (at_builtin; refine wpList_appFs w1.heap.size zs [ra, ch, tw] (off := 0) rfl rfl rfl rfl ?_ ?_ ?_ ?_ ?_)
        case _ => exact OF_below HO.out (below_alloc (Nat.le_refl _) (below_alloc (Nat.le_refl _) (Below.refl _ _) _) _)
        case _ =>
          obtain ⟨n0, n1, n2⟩ := sta_top (wr.alloc (.cells #[.float .f32 ra, .float .f32 ch, .float .f32 tw] 101)) (wr.heap.size + 1) (by simp) ⟨ra, ch, tw⟩ 22
          exact cells3 n0 n1 n2
        case _ => exact HL.out
        case _ => have := HB.out.size; simp; omega
        intro u7 w7 H1 H2
        have E1 := Lib.hid H1
        have E2 := Lib.hid (HB.out.trans (Below.trans (show Below w1.heap.size wr ((wr.alloc (.cells #[.float .f32 ra, .float .f32 ch, .float .f32 tw] 101)).alloc (.cells #[.float .f32 ra, .float .f32 ch, .float .f32 tw] 22)) from below_alloc HB.out.size (below_alloc HB.out.size (Below.refl _ _) _) _) H2))
        clear H1 H2
        go_wp2
        go_roundw
        case rel => exact ⟨k + 1, by omega, by go_num, by rw [HS2.out]; exact E1.out, E2.out⟩
        case measure => simp [RowKit.intOf]; omega
      · obtain rfl : k = cs.length := by omega
        rw [List.take_length] at ho
        have HU := Lib.hid (RF_of_own ho (by rw [staF_len]; have := LS.out; omega))
        have HRW := Lib.hid (HR.out.below hb)
        obtain ⟨⟨h0, h1, h2⟩, h3, h4, h5, h6⟩ := HRW.out
        have HB := Lib.hid (below_step (Nat.le_refl _) HB1.out hb)
        clear ho hb
        go_wp2_with fail
        go_region_held3 (fun w' => (w'.cell? ⟨g, 0, none⟩ = some va ∧ w'.cell? ⟨g, 1, none⟩ = some vl ∧ w'.cell? ⟨g, 2, none⟩ = some vd) ∧ w'.cell? ⟨g, 3, none⟩ = some (.slice ps cs.length cp) ∧ w'.cell? ⟨g, 4, none⟩ = some (.int .i64 c) ∧ w'.cell? ⟨g, 5, none⟩ = some (.float .f32 hub) ∧ w'.cell? ⟨g, 6, none⟩ = some (.float .f32 tip))
          ((refine HRW.out.below ?_; repeat (first | with_reducible exact Below.refl _ _ | with_reducible refine Below_drewK ?_ | with_reducible refine below_alloc (Nat.le_refl _) ?_ _ | with_reducible refine below_step (Nat.le_refl _) ?_ (by with_reducible assumption))))
          (first
            | ((go_at_call 44; with_reducible refine (H1.out _ ?_).mono ?_; (focus (repeat (first | with_reducible exact HB.out | with_reducible refine Below_drewK ?_ | with_reducible refine below_alloc (Nat.le_refl _) ?_ _ | with_reducible refine below_step (Nat.le_refl _) ?_ (by with_reducible assumption)))); rintro e' w2 ⟨rfl, hb2⟩))
            | ((go_at_call 32; with_reducible refine (H2.out _ _ ?_ ?_).mono ?_; (focus (repeat (first | with_reducible exact HU.out | with_reducible refine RF.alloc ?_ _ | with_reducible refine RF_drewT ?_ | with_reducible refine RF_below ?_ (by with_reducible assumption)))); (focus (repeat (first | with_reducible exact HB.out | with_reducible refine Below_drewK ?_ | with_reducible refine below_alloc (Nat.le_refl _) ?_ _ | with_reducible refine below_step (Nat.le_refl _) ?_ (by with_reducible assumption)))); rintro e' w3 ⟨rfl, hb3⟩))
            | ((go_at_call 38; with_reducible refine (H3.out _).mono ?_; rintro e' w4 ⟨rfl, hb4⟩))
            | ((go_at_call 32; with_reducible refine (H4.out _ _ ?_ ?_).mono ?_; (focus (repeat (first | with_reducible exact RF_top2 _ _ rfl _ _ _ | with_reducible refine RF_drewT ?_ | with_reducible refine RF_below ?_ (by with_reducible assumption)))); (focus (repeat (first | with_reducible exact HB.out | with_reducible refine Below_drewK ?_ | with_reducible refine below_alloc (Nat.le_refl _) ?_ _ | with_reducible refine below_step (Nat.le_refl _) ?_ (by with_reducible assumption)))); rintro e' w5 ⟨rfl, hb5⟩)))
        all_goals
          go_wp2
          go_ret2
          refine TextOut_eq HFIN.out ?_
          repeat (first | with_reducible exact HB.out | with_reducible refine Below_drewK ?_ | with_reducible refine below_alloc (Nat.le_refl _) ?_ _ | with_reducible refine below_step (Nat.le_refl _) ?_ (by with_reducible assumption))
end Go.Proofs.YtimckchoekkkfaaDoor
