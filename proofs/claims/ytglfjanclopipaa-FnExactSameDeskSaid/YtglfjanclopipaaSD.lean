/- Walks: the same rotors: the reference's. -/
import Derived.Test.YtglfjanclopipaaSC
namespace Go.Proofs.Ytglfjanclopipaa
set_option linter.unusedSimpArgs false
set_option linter.unusedVariables false
open Go.RowKit Go.Fl Go.Lib

theorem s_SameProfile (va vl vd va' vl' vd' : Value) (a l d a' l' d' : List Nat) (w : World) (ha : RF w va a) (ta : Bd a) (hl : RF w vl l) (tl : Bd l) (hd : RF w vd d) (td : Bd d) (ha' : RF w va' a') (ta' : Bd a') (hl' : RF w vl' l') (tl' : Bd l') (hd' : RF w vd' d') (td' : Bd d') : Calls Try.prog 55 #[profV va vl vd, profV va' vl' vd'] w fun e' w' => e' = .returned (.bool (sameProf a l d a' l' d')) ∧ Below w.heap.size w w' := by
  have HA1 : Below w.heap.size w ((w.alloc (.cells #[va, vl, vd] 41)).alloc (.cells #[va', vl', vd'] 41)) := below_alloc (Nat.le_refl _) (below_alloc (Nat.le_refl _) (Below.refl _ _) _) _
  have H := Lib.hid (s_l02Same w.heap.size (w.heap.size + 1) va vl vd va' vl' vd' a l d a' l' d' _ (RF_below ha HA1) ta (RF_below hl HA1) tl (RF_below hd HA1) td (RF_below ha' HA1) ta' (RF_below hl' HA1) tl' (RF_below hd' HA1) td' ((prof_top w _ rfl va vl vd 41).below (below_alloc (Nat.le_refl _) (Below.refl _ _) _)) (prof_top _ _ (by simp) va' vl' vd' 41))
  have HB := Lib.hid HA1
  clear ha ta hl tl hd td ha' ta' hl' tl' hd' td' HA1
  go_enter Try.func55, Try.ntmps55
  go_wp2_with fail
  refine H.out.mono ?_
  rintro e' w1 ⟨rfl, hb⟩
  go_wp2
  go_ret
  exact ⟨rfl, below_step (Nat.le_refl _) HB.out hb⟩
set_option maxRecDepth 100000 in
set_option maxHeartbeats 4000000 in
theorem s_l03Same (g q : Nat) (va vl vd vs : Value) (a l d : List Nat) (cs : List Sta) (c : Int) (hub tip : Nat) (va' vl' vd' vs' : Value) (a' l' d' : List Nat) (cs' : List Sta) (c' : Int) (hub' tip' : Nat) (w : World) (ha : RF w va a) (ta : Bd a) (hl : RF w vl l) (tl : Bd l) (hd : RF w vd d) (td : Bd d) (ha' : RF w va' a') (ta' : Bd a') (hl' : RF w vl' l') (tl' : Bd l') (hd' : RF w vd' d') (td' : Bd d') (hs : RT w vs cs) (ts : ∀ s ∈ cs, StaG s) (hs' : RT w vs' cs') (ts' : ∀ s ∈ cs', StaG s) (bd : Bd [hub, tip, hub', tip']) (hg : RotAt w g va vl vd vs c hub tip) (hq : RotAt w q va' vl' vd' vs' c' hub' tip') : Calls Try.prog 19 #[.pointer (some ⟨g, 0, none⟩), .pointer (some ⟨q, 0, none⟩)] w fun e' w' => e' = .returned (.bool (sameRot a l d cs c hub tip a' l' d' cs' c' hub' tip')) ∧ Below w.heap.size w w' := by
  have H0 := Lib.hid (fun W (hb : Below w.heap.size w W) => s_SameProfile va vl vd va' vl' vd' a l d a' l' d' W (RF_below ha hb) ta (RF_below hl hb) tl (RF_below hd hb) td (RF_below ha' hb) ta' (RF_below hl' hb) tl' (RF_below hd' hb) td')
  have H3 := Lib.hid (fun W (hb : Below w.heap.size w W) => toBelow (s_l01Same hub hub' W (bd _ (by simp)) (bd _ (by simp))))
  have H4 := Lib.hid (fun W (hb : Below w.heap.size w W) => toBelow (s_l01Same tip tip' W (bd _ (by simp)) (bd _ (by simp))))
  have HS := Lib.hid (fun x y W hx hy => s_l01Same x y W hx hy)
  have hdef : Hid (sameRot a l d cs c hub tip a' l' d' cs' c' hub' tip' = (sameProf a l d a' l' d' && pairs sameSta cs cs' && (c == c') && same32 hub hub' && same32 tip tip')) := rfl
  obtain ⟨⟨c0, c1, c2⟩, c3, c4, c5, c6⟩ := hg
  obtain ⟨⟨d0, d1, d2⟩, d3, d4, d5, d6⟩ := hq
  obtain ⟨pp, cap, rfl, hm, hc⟩ := hs
  obtain ⟨pp', cap', rfl, hm', hc'⟩ := hs'
  have kc0 := cell_regrown c0
  have kd0 := cell_regrown d0
  have kc1 := cell_regrown c1
  have kd1 := cell_regrown d1
  have kc2 := cell_regrown c2
  have kd2 := cell_regrown d2
  have kc3 := cell_regrown c3
  have kd3 := cell_regrown d3
  have kc4 := cell_regrown c4
  have kd4 := cell_regrown d4
  have kc5 := cell_regrown c5
  have kd5 := cell_regrown d5
  have kc6 := cell_regrown c6
  have kd6 := cell_regrown d6
  have HC3 := Lib.hid c3
  have HD3 := Lib.hid d3
  have HC := Lib.hid hc
  have HC' := Lib.hid hc'
  have TS := Lib.hid ts
  have TS' := Lib.hid ts'
  clear ha ta hl tl hd td ha' ta' hl' tl' hd' td' bd c0 c1 c2 c3 c4 c5 c6 d0 d1 d2 d3 d4 d5 d6 hc hc' ts ts'
  generalize sameRot a l d cs c hub tip a' l' d' cs' c' hub' tip' = D at *
  generalize sameProf a l d a' l' d' = K0 at *
  generalize same32 hub hub' = K3 at *
  generalize same32 tip tip' = K4 at *
  cases K0
  · have e0 : Hid (D = false) := by show _ = _; rw [hdef.out]; simp only [Bool.false_and, Bool.and_false]
    have X0 := Lib.hid (fun d os => Calls.regrown_of (H0.out _ (below_regrown w d os)))
    clear H0 H3 H4 HS
    go_enter Try.func19, Try.ntmps19
    go_wp2_with fail
    refine wp_region_quiet_below (by kernel_rfl) (by kernel_rfl) ?_
    repeat (go_big_quiet_step (first | with_reducible exact X0.out _ _))
    refine wpQuiet_nil ?_
    intro _ hw'
    obtain ⟨⟨dq, osq⟩, hw''⟩ := hw'
    subst hw''
    go_wp2
    go_ret
    exact ⟨by rw [e0.out]; rfl, below_regrown w dq osq⟩
  by_cases hl : cs.length = cs'.length
  case neg =>
    have h1 := len_beq_false hl
    have HLN := Lib.hid (pairs_len (p := sameSta) hl)
    clear hl
    have e0 : Hid (D = false) := by show _ = _; rw [hdef.out, HLN.out]; simp only [Bool.false_and, Bool.and_false]
    have X0 := Lib.hid (fun d os => Calls.regrown_of (H0.out _ (below_regrown w d os)))
    clear H0 H3 H4 HS
    go_enter Try.func19, Try.ntmps19
    go_wp2_with fail
    refine wp_region_quiet_below (by kernel_rfl) (by kernel_rfl) ?_
    repeat (go_big_quiet_step (first | with_reducible exact X0.out _ _))
    refine wpQuiet_nil ?_
    intro _ hw'
    obtain ⟨⟨dq, osq⟩, hw''⟩ := hw'
    subst hw''
    go_wp2
    go_ret
    exact ⟨by rw [e0.out]; rfl, below_regrown w dq osq⟩
  have h1 := len_beq_true hl
  have HL := Lib.hid hl
  clear hl
  rcases (by cases (c == c') <;> simp : (c == c') = true ∨ (c == c') = false) with hq | hq
  case inr =>
    have hq' : (c != c') = true := by rw [bne, hq]; rfl
    have e0 : Hid (D = false) := by show _ = _; rw [hdef.out, hq]; simp only [Bool.false_and, Bool.and_false]
    have X0 := Lib.hid (fun d os => Calls.regrown_of (H0.out _ (below_regrown w d os)))
    clear H0 H3 H4 HS
    go_enter Try.func19, Try.ntmps19
    go_wp2_with fail
    refine wp_region_quiet_below (by kernel_rfl) (by kernel_rfl) ?_
    repeat (go_big_quiet_step (first | with_reducible exact X0.out _ _))
    refine wpQuiet_nil ?_
    intro _ hw'
    obtain ⟨⟨dq, osq⟩, hw''⟩ := hw'
    subst hw''
    go_wp2
    go_ret
    exact ⟨by rw [e0.out]; rfl, below_regrown w dq osq⟩
  have hq' : (c != c') = false := by rw [bne, hq]; rfl
  have HQ := Lib.hid hq
  clear hq
  cases K3
  · have e0 : Hid (D = false) := by show _ = _; rw [hdef.out]; simp only [Bool.false_and, Bool.and_false]
    have X0 := Lib.hid (fun d os => Calls.regrown_of (H0.out _ (below_regrown w d os)))
    have X3 := Lib.hid (fun d os => Calls.regrown_of (H3.out _ (below_regrown w d os)))
    clear H0 H3 H4 HS
    go_enter Try.func19, Try.ntmps19
    go_wp2_with fail
    refine wp_region_quiet_below (by kernel_rfl) (by kernel_rfl) ?_
    repeat (go_big_quiet_step (first | with_reducible exact X0.out _ _ | with_reducible exact X3.out _ _))
    refine wpQuiet_nil ?_
    intro _ hw'
    obtain ⟨⟨dq, osq⟩, hw''⟩ := hw'
    subst hw''
    go_wp2
    go_ret
    exact ⟨by rw [e0.out]; rfl, below_regrown w dq osq⟩
  cases K4
  · have e0 : Hid (D = false) := by show _ = _; rw [hdef.out]; simp only [Bool.false_and, Bool.and_false]
    have X0 := Lib.hid (fun d os => Calls.regrown_of (H0.out _ (below_regrown w d os)))
    have X3 := Lib.hid (fun d os => Calls.regrown_of (H3.out _ (below_regrown w d os)))
    have X4 := Lib.hid (fun d os => Calls.regrown_of (H4.out _ (below_regrown w d os)))
    clear H0 H3 H4 HS
    go_enter Try.func19, Try.ntmps19
    go_wp2_with fail
    refine wp_region_quiet_below (by kernel_rfl) (by kernel_rfl) ?_
    repeat (go_big_quiet_step (first | with_reducible exact X0.out _ _ | with_reducible exact X3.out _ _ | with_reducible exact X4.out _ _))
    refine wpQuiet_nil ?_
    intro _ hw'
    obtain ⟨⟨dq, osq⟩, hw''⟩ := hw'
    subst hw''
    go_wp2
    go_ret
    exact ⟨by rw [e0.out]; rfl, below_regrown w dq osq⟩
  have HD : Hid (D = pairs sameSta cs cs') := by show _ = _; rw [hdef.out, HQ.out]; simp only [Bool.true_and, Bool.and_true]
  clear hdef HQ
  have X0 := Lib.hid (fun d os => Calls.regrown_of (H0.out _ (below_regrown w d os)))
  have X3 := Lib.hid (fun d os => Calls.regrown_of (H3.out _ (below_regrown w d os)))
  have X4 := Lib.hid (fun d os => Calls.regrown_of (H4.out _ (below_regrown w d os)))
  clear H0 H3 H4
  go_enter Try.func19, Try.ntmps19
  go_wp2_with fail
  refine wp_region_quiet_below (by kernel_rfl) (by kernel_rfl) ?_
  repeat (go_big_quiet_step (first | with_reducible exact X0.out _ _ | with_reducible exact X3.out _ _ | with_reducible exact X4.out _ _))
  refine wpQuiet_nil ?_
  intro _ hw'
  obtain ⟨⟨dq, osq⟩, hw''⟩ := hw'
  subst hw''
  
  have hb1 := below_regrown w dq osq
  obtain ⟨w1, hw1⟩ : ∃ w1, w1 = Sort.grow (redrawn w dq) osq := ⟨_, rfl⟩
  rw [← hw1] at hb1
  rw [← hw1]
  clear hw1 X0 X3 X4 kc0 kd0 kc1 kd1 kc2 kd2 kc3 kd3 kc4 kd4 kc5 kd5 kc6 kd6 h1 hq'
  have c3 := hcell_below HC3.out hb1
  have d3 := hcell_below HD3.out hb1
  have HB1 := Lib.hid hb1
  replace HC3 := Lib.hid c3
  replace HD3 := Lib.hid d3
  clear hb1
  go_wp2_with fail
  clear c3 d3
  go_loopw [5, 6, 7, 71] (fun _ _ _ i wr => ∃ k : Nat, k ≤ cs.length ∧ i = .int .i64 k ∧ Below w1.heap.size w1 wr ∧ allYet sameSta cs cs' k) (fun _ _ _ i _ => cs.length - (intOf i).toNat)
  case atStart => exact ⟨0, Nat.zero_le _, rfl, Below.refl _ _, allYet_zero _ _ _⟩
  case round =>
    obtain ⟨k, hk, rfl, hb, hn⟩ := hrel
    by_cases hlt : k < cs.length
    · have hlt' : k < cs'.length := by rw [← HL.out]; exact hlt
      obtain ⟨b, off, rfl, hcell⟩ := HC.out.resolve_left (by omega)
      obtain ⟨b', off', rfl, hcell'⟩ := HC'.out.resolve_left (by omega)
      obtain ⟨g1, g2, g3⟩ := ((StaAt_of hcell k hlt).below HB1.out).below hb
      obtain ⟨j1, j2, j3⟩ := ((StaAt_of hcell' k hlt').below HB1.out).below hb
      have c3 := hcell_below HC3.out hb
      have d3 := hcell_below HD3.out hb
      have q0 : ∀ o : Obj, (wr.alloc o).cell? _ = _ := fun o => hcell_below d3 (below_alloc (Nat.le_refl _) (Below.refl _ _) o)
      have q1 : ∀ o : Obj, (wr.alloc o).cell? _ = _ := fun o => hcell_below j1 (below_alloc (Nat.le_refl _) (Below.refl _ _) o)
      have q2 : ∀ o : Obj, (wr.alloc o).cell? _ = _ := fun o => hcell_below j2 (below_alloc (Nat.le_refl _) (Below.refl _ _) o)
      have q3 : ∀ o : Obj, (wr.alloc o).cell? _ = _ := fun o => hcell_below j3 (below_alloc (Nat.le_refl _) (Below.refl _ _) o)
      have Gc := TS.out cs[k] (List.getElem_mem hlt)
      have Gd := TS'.out cs'[k] (List.getElem_mem hlt')
      generalize hcc : cs[k] = s1 at g1 g2 g3 Gc
      generalize hdd : cs'[k] = s2 at j1 j2 j3 q1 q2 q3 Gd
      have HCC := Lib.hid hcc
      have HDD := Lib.hid hdd
      clear hcell hcell' hcc hdd j1 j2 j3 d3
      obtain ⟨ra, ch, tw⟩ := s1
      obtain ⟨ra', ch', tw'⟩ := s2
      obtain ⟨G1, G2, G3⟩ := Gc
      obtain ⟨G1', G2', G3'⟩ := Gd
      simp only at g1 g2 g3 q1 q2 q3 G1 G2 G3 G1' G2' G3'
      have Y1 := Lib.hid (fun W => HS.out ra ra' W G1 G1')
      have Y2 := Lib.hid (fun W => HS.out ch ch' W G2 G2')
      have Y3 := Lib.hid (fun W => HS.out tw tw' W G3 G3')
      have HP : Hid (sameSta cs[k] cs'[k] = (same32 ra ra' && same32 ch ch' && same32 tw tw')) := by show _ = _; rw [HCC.out, HDD.out]; rfl
      have HB := Lib.hid hb
      clear hb G1 G2 G3 G1' G2' G3' HCC HDD
      generalize same32 ra ra' = K1 at *
      generalize same32 ch ch' = K2 at *
      generalize same32 tw tw' = K3 at *
      cases K1
      · have e0 : Hid (D = false) := by show _ = _; rw [HD.out]; exact pairs_not hlt hlt' (by rw [HP.out]; simp only [Bool.false_and])
        go_wp2_with (go_at_call 56; with_reducible refine (Y1.out _).mono ?_; rintro e' w2 ⟨rfl, n2, rfl⟩)
        go_ret
        exact ⟨by rw [e0.out]; rfl, below_step (Nat.le_refl _) HB1.out (by have hb := HB.out; exact (by repeat (first | exact Below.refl _ _ | assumption | refine below_drewN ?_ _ | refine below_alloc (Nat.le_refl _) ?_ _ | (refine Below.setCell ?_ (by first | exact Nat.le_refl _ | (simp; done) | (simp; omega) | omega) _) | (refine below_step (Nat.le_refl _) ?_ (by assumption)))))⟩
      cases K2
      · have e0 : Hid (D = false) := by show _ = _; rw [HD.out]; exact pairs_not hlt hlt' (by rw [HP.out]; simp only [Bool.false_and, Bool.and_false])
        go_wp2_with (first | (go_at_call 56; with_reducible refine (Y1.out _).mono ?_; rintro e' w2 ⟨rfl, n2, rfl⟩) | (go_at_call 56; with_reducible refine (Y2.out _).mono ?_; rintro e' w3 ⟨rfl, n3, rfl⟩))
        go_ret
        exact ⟨by rw [e0.out]; rfl, below_step (Nat.le_refl _) HB1.out (by have hb := HB.out; exact (by repeat (first | exact Below.refl _ _ | assumption | refine below_drewN ?_ _ | refine below_alloc (Nat.le_refl _) ?_ _ | (refine Below.setCell ?_ (by first | exact Nat.le_refl _ | (simp; done) | (simp; omega) | omega) _) | (refine below_step (Nat.le_refl _) ?_ (by assumption)))))⟩
      cases K3
      · have e0 : Hid (D = false) := by show _ = _; rw [HD.out]; exact pairs_not hlt hlt' (by rw [HP.out]; simp only [Bool.and_false])
        go_wp2_with (first | (go_at_call 56; with_reducible refine (Y1.out _).mono ?_; rintro e' w2 ⟨rfl, n2, rfl⟩) | (go_at_call 56; with_reducible refine (Y2.out _).mono ?_; rintro e' w3 ⟨rfl, n3, rfl⟩) | (go_at_call 56; with_reducible refine (Y3.out _).mono ?_; rintro e' w4 ⟨rfl, n4, rfl⟩))
        go_ret
        exact ⟨by rw [e0.out]; rfl, below_step (Nat.le_refl _) HB1.out (by have hb := HB.out; exact (by repeat (first | exact Below.refl _ _ | assumption | refine below_drewN ?_ _ | refine below_alloc (Nat.le_refl _) ?_ _ | (refine Below.setCell ?_ (by first | exact Nat.le_refl _ | (simp; done) | (simp; omega) | omega) _) | (refine below_step (Nat.le_refl _) ?_ (by assumption)))))⟩
      go_wp2_with (first | (go_at_call 56; with_reducible refine (Y1.out _).mono ?_; rintro e' w2 ⟨rfl, n2, rfl⟩) | (go_at_call 56; with_reducible refine (Y2.out _).mono ?_; rintro e' w3 ⟨rfl, n3, rfl⟩) | (go_at_call 56; with_reducible refine (Y3.out _).mono ?_; rintro e' w4 ⟨rfl, n4, rfl⟩))
      go_roundw
      case rel => exact ⟨k + 1, by omega, by go_num, by have hb := HB.out; exact (by repeat (first | exact Below.refl _ _ | assumption | refine below_drewN ?_ _ | refine below_alloc (Nat.le_refl _) ?_ _ | (refine Below.setCell ?_ (by first | exact Nat.le_refl _ | (simp; done) | (simp; omega) | omega) _) | (refine below_step (Nat.le_refl _) ?_ (by assumption)))), allYet_succ hn hlt hlt' (by rw [HP.out]; rfl)⟩
      case measure => simp [intOf]; omega
    · obtain rfl : k = cs.length := by omega
      have e0 : Hid (D = true) := by show _ = _; rw [HD.out]; exact pairs_all HL.out hn
      have HB := Lib.hid hb
      clear hb
      go_wp2
      go_ret
      exact ⟨by rw [e0.out]; rfl, below_step (Nat.le_refl _) HB1.out HB.out⟩
end Go.Proofs.Ytglfjanclopipaa
