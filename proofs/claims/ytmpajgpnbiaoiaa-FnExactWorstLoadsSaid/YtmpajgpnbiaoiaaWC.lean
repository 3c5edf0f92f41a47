/- Walks: WorstLoads. -/
import Derived.Test.YtmpajgpnbiaoiaaWB
namespace Go.Proofs.Ytmpajgpnbiaoiaa
set_option linter.unusedSimpArgs false
set_option linter.unusedVariables false
open Go.RowKit Go.Fl
/-- 'append' of a slice of numbers to an empty slice of the call's own. -/
theorem wpList_copyF {ops : Array Oper} {rest : List Oper} {o : Oper} {a : Act} {Q : Exit → Act → World → Prop} {w : World} (B : Nat) (xs : List Nat) {s x : Operand} {v u : Value} (hgd : o.guard = none)
    (ho : o.op = .call { callee := .builtin .append, args := #[s, x], argTypes := #[32, 32] }) (hs : a.eval s = v) (hx : a.eval x = u)
    (hown : OF B w v []) (hv : v ≠ .slice none 0 0) (hu : RF w u xs) (hne : xs ≠ []) (hl : xs.length ≤ 1048577) (hB : B ≤ w.heap.size)
    (h : ∀ u' w', OF B w' u' xs → u' ≠ .slice none 0 0 → Below B w w' → wpList Try.prog ops Q rest (a.put o.dst u') w') : wpList Try.prog ops Q (o :: rest) a w := by
  have hinfo : (Try.prog.info? 22).map (fun i => (i.zero, i.size, i.bytes)) = some (some (.float .f32 0), 1, 4) := by kernel_rfl
  obtain ⟨i, hi, hzz⟩ := Option.map_eq_some_iff.1 hinfo
  simp only [Prod.mk.injEq] at hzz
  obtain ⟨hz, hsz, hby⟩ := hzz
  obtain ⟨p, cap, rfl, hm, hc⟩ := hu
  obtain ⟨b, off, rfl, hcell⟩ := hc.resolve_left (fun e => hne (List.eq_nil_of_length_eq_zero e))
  refine wpList_append_own w hgd s x 32 ho B 22 i (.float .f32 0) 1 4 Try.underlying32 hi hz hsz hby rfl (by decide) v 0 _ hs hown ⟨b, off, none⟩ xs.length cap (xs.map (Value.float .f32)) hx (by simp) ?_ ?_ (by unfold maxLen; omega) (by omega) hB ?_
  · intro j y hj
    have e : (⟨b, off, none⟩ : Addr).add j = ⟨b, off + j, none⟩ := by
      unfold Addr.add
      by_cases h : j = 0
      · subst h; simp
      · simp [h]
    rw [e]
    exact hcell j y hj
  · intro y hy
    obtain ⟨b, _, rfl⟩ := List.mem_map.1 hy
    rfl
  · intro v' w' h1 h2 h3
    refine h v' w' ?_ (fun h0 => hv (h3.1 h0).1) (grown_below hown h2 hB (Nat.le_refl _))
    have e : 0 + xs.length = xs.length := by omega
    rw [e] at h1
    exact h1
theorem OF_setD {B : Nat} {w : World} {g cap m : Nat} {zs : List Nat} (h : OF B w (.slice (some ⟨g, 0, none⟩) m cap) zs) (hm : zs.length = m) (j x : Nat) : OF B (w.setCell ⟨g, j, none⟩ (.float .f32 x)) (.slice (some ⟨g, 0, none⟩) m cap) (zs.set j x) ∧ w.grownBy (w.setCell ⟨g, j, none⟩ (.float .f32 x)) (some g) := by
  subst hm
  have := World.ownsRow.stored h j (.float .f32 x)
  refine ⟨?_, this.2⟩
  unfold OF
  rw [List.length_set, List.map_set]
  exact this.1
theorem OI_setD {B : Nat} {w : World} {g cap m : Nat} {zs : List Int} (h : OI B w (.slice (some ⟨g, 0, none⟩) m cap) zs) (hm : zs.length = m) (j : Nat) (x : Int) : OI B (w.setCell ⟨g, j, none⟩ (.int .i64 x)) (.slice (some ⟨g, 0, none⟩) m cap) (zs.set j x) ∧ w.grownBy (w.setCell ⟨g, j, none⟩ (.int .i64 x)) (some g) := by
  subst hm
  have := World.ownsRow.stored h j (.int .i64 x)
  refine ⟨?_, this.2⟩
  unfold OI
  rw [List.length_set, List.map_set]
  exact this.1
theorem OF_at {B : Nat} {w : World} {g cap m : Nat} {zs : List Nat} (h : OF B w (.slice (some ⟨g, 0, none⟩) m cap) zs) (hm : zs.length = m) (j : Nat) (hj : j < zs.length) : w.cell? ⟨g, j, none⟩ = some (.float .f32 zs[j]) ∧ w.frozen? ⟨g, j, none⟩ = false := by
  subst hm
  refine ⟨?_, World.ownsRow.frozenAt h j⟩
  rw [World.ownsRow.cellAt h j (by omega)]; simp [hj]
theorem OI_at {B : Nat} {w : World} {g cap m : Nat} {zs : List Int} (h : OI B w (.slice (some ⟨g, 0, none⟩) m cap) zs) (hm : zs.length = m) (j : Nat) (hj : j < zs.length) : w.cell? ⟨g, j, none⟩ = some (.int .i64 zs[j]) ∧ w.frozen? ⟨g, j, none⟩ = false := by
  subst hm
  refine ⟨?_, World.ownsRow.frozenAt h j⟩
  rw [World.ownsRow.cellAt h j (by omega)]; simp [hj]
set_option maxHeartbeats 4000000 in
theorem s_WorstLoads (v : Value) (us : List Value) (xss : List (List Nat)) (w : World) (hx : RFF w v us xss) : Calls Try.prog 18 #[v] w fun e w' => WOut xss w e w' := by
  obtain ⟨⟨p1, cap1, rfl, hm1, hc1⟩, hlen, hrl⟩ := hx
  have HLEN := Lib.hid hlen
  have HRL := Lib.hid hrl
  clear hrl
  by_cases h1 : 1 ≤ us.length
  case neg =>
    have HG : Hid (wGood xss = false) := by show _ = _; unfold wGood; rw [show decide (1 ≤ xss.length) = false from decide_eq_false (by omega)]; simp
    clear hlen
    go_enter Try.func18, Try.ntmps18
    go_wp2
    go_ret3
    exact WOut.no HG.out (by repeat (first | exact Below.refl _ _ | assumption | refine below_drewN ?_ _ | refine below_alloc (Nat.le_refl _) ?_ _ | (refine Below.setCell ?_ (by first | exact Nat.le_refl _ | (simp; done) | (simp; omega) | omega) _) | (refine below_step (Nat.le_refl _) ?_ (by assumption))))
  by_cases h2 : us.length ≤ 32
  case neg =>
    have HG : Hid (wGood xss = false) := by show _ = _; unfold wGood; rw [show decide (xss.length ≤ 32) = false from decide_eq_false (by omega)]; simp
    clear hlen
    go_enter Try.func18, Try.ntmps18
    go_wp2
    go_ret3
    exact WOut.no HG.out (by repeat (first | exact Below.refl _ _ | assumption | refine below_drewN ?_ _ | refine below_alloc (Nat.le_refl _) ?_ _ | (refine Below.setCell ?_ (by first | exact Nat.le_refl _ | (simp; done) | (simp; omega) | omega) _) | (refine below_step (Nat.le_refl _) ?_ (by assumption))))
  obtain ⟨b, off, rfl, hcell⟩ := hc1.resolve_left (by omega)
  have HC := Lib.hid hcell
  have h0x : 0 < xss.length := by omega
  have hn0 : 0 < us.length := by omega
  have hc0 : w.cell? ⟨b, off, none⟩ = some us[0] := by have := hcell 0 us[0] (by simp); simpa using this
  obtain ⟨p0, cap0, e0, hm0, hcc0⟩ := HRL.out 0 (by omega) h0x
  have HR0 : Hid (RF w (.slice p0 xss[0].length cap0) xss[0]) := ⟨p0, cap0, rfl, hm0, hcc0⟩
  rw [e0] at hc0
  have HZ : Hid (rowAt xss 0 = xss[0]) := rowAt_eq h0x
  clear hcell hc1 hlen e0 hcc0
  generalize xss[0] = x0 at *
  go_enter Try.func18, Try.ntmps18
  go_wp2_with fail
  go_loopw [20] (fun i wr => ∃ k n : Nat, k ≤ us.length ∧ i = .int .i64 k ∧ wr = w.drewN n ∧ Hid (∀ j (hj : j < xss.length), j < k → rowOk xss xss[j] = true)) (fun i _ => us.length - (intOf i).toNat)
  case atStart => exact ⟨0, 0, Nat.zero_le _, rfl, rfl, fun j _ h => absurd h (Nat.not_lt_zero _)⟩
  case round =>
    obtain ⟨k, n, hk, rfl, rfl, hok⟩ := hrel
    by_cases hlt : k < us.length
    · have hltx : k < xss.length := by have := HLEN.out; omega
      have hc : w.cell? ⟨b, off + k, none⟩ = some us[k] := HC.out k _ (by simp [hlt])
      have HRK := Lib.hid (HRL.out k hlt hltx)
      obtain ⟨p, c, e, hmk, -⟩ := HRK.out
      have HK : Hid (rowOk xss xss[k] = true → ∀ j (hj : j < xss.length), j < k + 1 → rowOk xss xss[j] = true) := fun h j hj h2 => by
        by_cases e : j = k
        · subst e; exact h
        · exact hok.out j hj (by omega)
      have HN : Hid (rowOk xss xss[k] = false → wGood xss = false) := fun h => wGood_no hltx h
      have HRO : Hid (rowOk xss xss[k] = (loadsOk xss[k] && xss[k].length == x0.length)) := by show rowOk xss xss[k] = _; unfold rowOk; rw [HZ.out]
      have HQ := Lib.hid (fun m => s_l07Loads us[k] xss[k] ((w.drewN n).drewN m) HRK.out)
      rw [e] at hc HQ
      clear hok HRK e
      generalize xss[k] = xk at *
      cases hb1 : loadsOk xk
      · have HG := Lib.hid (HN.out (by rw [HRO.out, hb1]; rfl))
        rw [hb1] at HQ
        clear HK HN HRO hb1
        go_wp2_with fail
        ((refine wp_region_rq_lit (fun _ _ u => u = .bool false) (by kernel_rfl) (by kernel_rfl) ?_); (iterate 4 (refine wpRq_det' (by kernel_rfl) (fun K hK => ?_); go_simp; refine hK _ ?_; clear hK K)); (refine wpRq_call1 (f := 45) (X := .slice p xk.length c) rfl (by kernel_rfl) rfl (run_enter Try.func45 (by kernel_rfl) rfl) (fun x => (HQ.out _).mono (fun e w' ⟨he, hn⟩ => ⟨_, he, rfl, hn⟩)) ?_; intro v hv; subst hv); (iterate 2 (refine wpRq_det' (by kernel_rfl) (fun K hK => ?_); go_simp; refine hK _ ?_; clear hK K)); (iterate 10 (refine wpRq_skip (by kernel_rfl) ?_)); (refine wpRq_det' (by kernel_rfl) (fun K hK => ?_); go_simp; refine hK _ ?_; clear hK K); (refine wpRq_nil ?_); intro nq)
        go_wp2
        go_ret3
        exact WOut.no HG.out (by repeat (first | exact Below.refl _ _ | assumption | refine below_drewN ?_ _ | refine below_alloc (Nat.le_refl _) ?_ _ | (refine Below.setCell ?_ (by first | exact Nat.le_refl _ | (simp; done) | (simp; omega) | omega) _) | (refine below_step (Nat.le_refl _) ?_ (by assumption))))
      · rw [hb1] at HQ
        have hxn : xk.length ≤ 64 := by unfold loadsOk at hb1; simp at hb1; omega
        by_cases hle : xk.length = x0.length
        · have HR := Lib.hid (HK.out (by rw [HRO.out, hb1, hle]; simp))
          rw [hle] at hc HQ hmk hxn
          clear HK HN HRO hb1 hle
          go_wp2_with fail
          ((refine wp_region_rq_lit (fun _ _ u => u = .bool true) (by kernel_rfl) (by kernel_rfl) ?_); (iterate 4 (refine wpRq_det' (by kernel_rfl) (fun K hK => ?_); go_simp; refine hK _ ?_; clear hK K)); (refine wpRq_call1 (f := 45) (X := .slice p x0.length c) rfl (by kernel_rfl) rfl (run_enter Try.func45 (by kernel_rfl) rfl) (fun x => (HQ.out _).mono (fun e w' ⟨he, hn⟩ => ⟨_, he, rfl, hn⟩)) ?_; intro v hv; subst hv); (iterate 13 (refine wpRq_det' (by kernel_rfl) (fun K hK => ?_); go_simp; refine hK _ ?_; clear hK K)); (refine wpRq_nil ?_); intro nq)
          go_wp2
          go_roundw
          case rel => exact ⟨k + 1, _, by omega, by go_num, rfl, HR⟩
          case measure => simp [intOf]; omega
        · have HG := Lib.hid (HN.out (by rw [HRO.out, hb1]; simpa using hle))
          have hle' : ((xk.length : Int) == (x0.length : Int)) = false := by simp; omega
          clear HK HN HRO hb1
          go_wp2_with fail
          ((refine wp_region_rq_lit (fun _ _ u => u = .bool true) (by kernel_rfl) (by kernel_rfl) ?_); (iterate 4 (refine wpRq_det' (by kernel_rfl) (fun K hK => ?_); go_simp; refine hK _ ?_; clear hK K)); (refine wpRq_call1 (f := 45) (X := .slice p xk.length c) rfl (by kernel_rfl) rfl (run_enter Try.func45 (by kernel_rfl) rfl) (fun x => (HQ.out _).mono (fun e w' ⟨he, hn⟩ => ⟨_, he, rfl, hn⟩)) ?_; intro v hv; subst hv); (iterate 13 (refine wpRq_det' (by kernel_rfl) (fun K hK => ?_); go_simp; refine hK _ ?_; clear hK K)); (refine wpRq_nil ?_); intro nq)
          go_wp2
          go_ret3
          exact WOut.no HG.out (by repeat (first | exact Below.refl _ _ | assumption | refine below_drewN ?_ _ | refine below_alloc (Nat.le_refl _) ?_ _ | (refine Below.setCell ?_ (by first | exact Nat.le_refl _ | (simp; done) | (simp; omega) | omega) _) | (refine below_step (Nat.le_refl _) ?_ (by assumption))))
    · obtain rfl : k = us.length := by omega
      have hrow : ∀ j (hj : j < xss.length), rowOk xss xss[j] = true := fun j hj => hok.out j hj (by have := HLEN.out; omega)
      have HG := Lib.hid (wGood_yes (by have := HLEN.out; omega) (by have := HLEN.out; omega) hrow)
      obtain ⟨hll, hm1', hm2'⟩ := row_facts HZ.out h0x hrow
      have HLL := Lib.hid hll
      have hne : x0 ≠ [] := fun e => by rw [e] at hm1'; simp at hm1'
      have HNE := Lib.hid hne
      have HW0 : Hid (wall xss x0.length 0 = (x0, List.replicate x0.length 0)) := by show _ = _; unfold wall; rw [HZ.out]
      have HWL := Lib.hid (wall_len xss x0.length (by rw [HZ.out]))
      have hca : ∀ o, ((w.drewN n).alloc o).cell? ⟨b, off, none⟩ = some (.slice p0 x0.length cap0) := fun o => (Below.cell (show Below w.heap.size w ((w.drewN n).alloc o) from (by repeat (first | exact Below.refl _ _ | assumption | refine below_drewN ?_ _ | refine below_alloc (Nat.le_refl _) ?_ _ | (refine Below.setCell ?_ (by first | exact Nat.le_refl _ | (simp; done) | (simp; omega) | omega) _) | (refine below_step (Nat.le_refl _) ?_ (by assumption))))) (p := ⟨b, off, none⟩) (block_lt_of_cell hc0)).trans hc0
      clear hok hrow hll hne
      go_wp2_with (at_builtin; refine wpList_copyF w.heap.size x0 rfl rfl rfl rfl ?_ ?_ ?_ HNE.out (by omega) ?_ ?_)
      case _ => exact World.ownsRow_lit _ #[] 0 (by simp) (by unfold maxLen; omega) rfl
      case _ => exact fun h => absurd (show Value.slice (some ⟨w.heap.size, 0, none⟩) 0 0 = Value.slice none 0 0 from h) (by simp)
      case _ => exact RF_below HR0.out (by repeat (first | exact Below.refl _ _ | assumption | refine below_drewN ?_ _ | refine below_alloc (Nat.le_refl _) ?_ _ | (refine Below.setCell ?_ (by first | exact Nat.le_refl _ | (simp; done) | (simp; omega) | omega) _) | (refine below_step (Nat.le_refl _) ?_ (by assumption))))
      case _ => simp
      intro uw w1 O1 hnil hb1
      obtain ⟨g1, c1, e1⟩ : ∃ g1 c1, uw = .slice (some ⟨g1, 0, none⟩) x0.length c1 := by
        rcases O1.2 with ⟨e, -⟩ | ⟨g, cap, cur, e, -⟩
        · exact absurd e hnil
        · exact ⟨g, cap, e⟩
      subst e1
      have HB1 : Hid (Below w.heap.size w w1) := Below.trans (by repeat (first | exact Below.refl _ _ | assumption | refine below_drewN ?_ _ | refine below_alloc (Nat.le_refl _) ?_ _ | (refine Below.setCell ?_ (by first | exact Nat.le_refl _ | (simp; done) | (simp; omega) | omega) _) | (refine below_step (Nat.le_refl _) ?_ (by assumption)))) hb1
      have HO1 := Lib.hid O1
      have hmk := run_make_row' (P := Try.prog) 39 2 (.int .i64 0) 8 Try.underlying39 (by kernel_rfl) rfl .i64 .i64 x0.length (by omega) (by omega)
      have hstart := World.ownsRow_lit (base := w.heap.size) (e := 2) (size := 1) w1 (madeCells #[Value.int .i64 0] x0.length) x0.length HB1.out.size (by unfold maxLen; omega) (by rw [size_madeCells, Nat.mul_one])
      rw [zero_cells] at hstart
      have Hs : Hid (OI w.heap.size (w1.alloc (.cells (madeCells #[Value.int .i64 0] x0.length) 2)) (.slice (some ⟨w1.heap.size, 0, none⟩) x0.length x0.length) (List.replicate x0.length 0)) := by show w1.alloc _ |>.ownsRow _ _ _ _ _ _; rw [List.length_replicate]; exact hstart
      have HD : Hid (Dis (.slice (some ⟨g1, 0, none⟩) x0.length c1) (.slice (some ⟨w1.heap.size, 0, none⟩) x0.length x0.length)) := fun q h1 h2 => by
        have h3 := (O1.lt q h1).2
        simp only [Value.ownBlock, Option.some.injEq] at h2
        omega
      clear O1 hb1 hnil hstart
      obtain ⟨g2, hg2⟩ : ∃ g2, g2 = w1.heap.size := ⟨_, rfl⟩
      rw [← hg2] at Hs HD
      have HG2 := Lib.hid hg2
      go_wp2_with fail
      rw [← hg2]
      clear hg2 hmk hca hc0 HR0 hm0 hlt hk
      have HC2 : Hid (Below w.heap.size w (w1.alloc (.cells (madeCells #[Value.int .i64 0] x0.length) 2))) := by have hb := HB1.out; exact (by repeat (first | exact Below.refl _ _ | assumption | refine below_drewN ?_ _ | refine below_alloc (Nat.le_refl _) ?_ _ | (refine Below.setCell ?_ (by first | exact Nat.le_refl _ | (simp; done) | (simp; omega) | omega) _) | (refine below_step (Nat.le_refl _) ?_ (by assumption))))
      generalize hxm : x0.length = m at *
      have HXM := Lib.hid hxm
      clear hxm
      go_loopw [52] (fun i wr => ∃ k : Nat, k ≤ us.length ∧ i = .int .i64 k ∧ OF w.heap.size wr (.slice (some ⟨g1, 0, none⟩) m c1) (wall xss m k).1 ∧ OI w.heap.size wr (.slice (some ⟨g2, 0, none⟩) m m) (wall xss m k).2 ∧ Below w.heap.size w wr) (fun i _ => us.length - (intOf i).toNat)
      case atStart => exact ⟨0, Nat.zero_le _, rfl, by rw [HW0.out]; exact OF_below HO1.out (by repeat (first | exact Below.refl _ _ | assumption | refine below_drewN ?_ _ | refine below_alloc (Nat.le_refl _) ?_ _ | (refine Below.setCell ?_ (by first | exact Nat.le_refl _ | (simp; done) | (simp; omega) | omega) _) | (refine below_step (Nat.le_refl _) ?_ (by assumption)))), by rw [HW0.out]; exact Hs.out, HC2.out⟩
      case round =>
        obtain ⟨k, hk, rfl, hof, hoi, hb⟩ := hrel
        have HOF := Lib.hid hof
        have HOI := Lib.hid hoi
        have HB := Lib.hid hb
        obtain ⟨wl1, wl2⟩ := HWL.out k
        clear hof hoi hb
        by_cases hlt : k < us.length
        · have hltx : k < xss.length := by have := HLEN.out; omega
          have hc : w.cell? ⟨b, off + k, none⟩ = some us[k] := HC.out k _ (by simp [hlt])
          have HRK := HRL.out k hlt hltx
          obtain ⟨p, c, e, hmk, hcc⟩ := HRK
          have hkl := HLL.out k hltx
          have HSU : Hid (wall xss m (k + 1) = wrow (rowAt xss k) k (wall xss m k) m) := rfl
          rw [rowAt_eq hltx] at HSU
          have HST : Hid (∀ j, (wrow xss[k] k (wall xss m k) j).1.length = m ∧ (wrow xss[k] k (wall xss m k) j).2.length = m) := fun j => ⟨(wrow_len _ _ _ j).1.trans wl1, (wrow_len _ _ _ j).2.trans wl2⟩
          have HWS : Hid (∀ j, wrow xss[k] k (wall xss m k) (j + 1) = wstep xss[k] k (wrow xss[k] k (wall xss m k) j) j) := fun j => rfl
          have HW00 : Hid (wrow xss[k] k (wall xss m k) 0 = wall xss m k) := rfl
          have hcr := (HB.out.cell (p := ⟨b, off + k, none⟩) (block_lt_of_cell hc)).trans hc
          rw [e, hkl] at hc
          rw [hkl] at hcc
          rw [← HW00.out] at HOF HOI
          generalize xss[k] = xk at *
          generalize wrow xk k (wall xss m k) = F at *
          clear e hcr wl1 wl2
          obtain ⟨b2, off2, rfl, hcell2⟩ := hcc.resolve_left (by omega)
          go_wp2_with fail
          go_loopw [57] (fun i wr => ∃ j : Nat, j ≤ m ∧ i = .int .i64 j ∧ OF w.heap.size wr (.slice (some ⟨g1, 0, none⟩) m c1) (F j).1 ∧ OI w.heap.size wr (.slice (some ⟨g2, 0, none⟩) m m) (F j).2 ∧ Below w.heap.size w wr) (fun i _ => m - (intOf i).toNat)
          case atStart => exact ⟨0, Nat.zero_le _, rfl, OF_below HOF.out (by repeat (first | exact Below.refl _ _ | assumption | refine below_drewN ?_ _ | refine below_alloc (Nat.le_refl _) ?_ _ | (refine Below.setCell ?_ (by first | exact Nat.le_refl _ | (simp; done) | (simp; omega) | omega) _) | (refine below_step (Nat.le_refl _) ?_ (by assumption)))), OI_below HOI.out (by repeat (first | exact Below.refl _ _ | assumption | refine below_drewN ?_ _ | refine below_alloc (Nat.le_refl _) ?_ _ | (refine Below.setCell ?_ (by first | exact Nat.le_refl _ | (simp; done) | (simp; omega) | omega) _) | (refine below_step (Nat.le_refl _) ?_ (by assumption)))), by have hb := HB.out; exact (by repeat (first | exact Below.refl _ _ | assumption | refine below_drewN ?_ _ | refine below_alloc (Nat.le_refl _) ?_ _ | (refine Below.setCell ?_ (by first | exact Nat.le_refl _ | (simp; done) | (simp; omega) | omega) _) | (refine below_step (Nat.le_refl _) ?_ (by assumption))))⟩
          case round =>
            obtain ⟨j, hj, rfl, hof, hoi, hb⟩ := hrel
            by_cases hjl : j < m
            · obtain ⟨f1, f2⟩ := HST.out j
              have hxj : j < xk.length := by omega
              have hr0 : w.cell? ⟨b2, off2 + j, none⟩ = some (.float .f32 xk[j]) := hcell2 j _ (by simp [hxj])
              have hr1 : wr.cell? ⟨b2, off2 + j, none⟩ = some (.float .f32 xk[j]) := (hb.cell (p := ⟨b2, off2 + j, none⟩) (block_lt_of_cell hr0)).trans hr0
              have hc1 : wr.cell? ⟨b, off + k, none⟩ = some (.slice (some ⟨b2, off2, none⟩) m c) := (hb.cell (p := ⟨b, off + k, none⟩) (block_lt_of_cell hc)).trans hc
              have hwj : j < (F j).1.length := by omega
              have hij : j < (F j).2.length := by omega
              obtain ⟨hw1, hfz⟩ := OF_at hof f1 j hwj
              have HSY := Lib.hid (fun h => (HWS.out j).trans (wstep_yes (i := k) hxj hwj h))
              have HSN := Lib.hid (fun h => (HWS.out j).trans (wstep_no (i := k) hxj hwj h))
              have HO2 := Lib.hid hof
              have HI2 := Lib.hid hoi
              have HB2 := Lib.hid hb
              clear hr0 hcell2 hcc hof hoi hb
              cases hf : fgt .f32 xk[j] (F j).1[j]
              · have HSN' := Lib.hid (HSN.out hf)
                have hcmp : (FloatKind.f32.format.order xk[j] (F j).1[j] == some .gt) = false := hf
                clear HSN HSY hf
                go_wp2_with fail
                ((refine wp_region_rq_lit (fun _ _ _ => False) (by kernel_rfl) (by kernel_rfl) ?_); (iterate 12 (refine wpRq_det' (by kernel_rfl) (fun K hK => ?_); go_simp; refine hK _ ?_; clear hK K)); (refine wpRq_nil ?_); intro nq)
                go_wp2
                go_roundw
                case rel => exact ⟨j + 1, by omega, by go_num, by rw [HSN'.out]; exact OF_below HO2.out (by repeat (first | exact Below.refl _ _ | assumption | refine below_drewN ?_ _ | refine below_alloc (Nat.le_refl _) ?_ _ | (refine Below.setCell ?_ (by first | exact Nat.le_refl _ | (simp; done) | (simp; omega) | omega) _) | (refine below_step (Nat.le_refl _) ?_ (by assumption)))), by rw [HSN'.out]; exact OI_below HI2.out (by repeat (first | exact Below.refl _ _ | assumption | refine below_drewN ?_ _ | refine below_alloc (Nat.le_refl _) ?_ _ | (refine Below.setCell ?_ (by first | exact Nat.le_refl _ | (simp; done) | (simp; omega) | omega) _) | (refine below_step (Nat.le_refl _) ?_ (by assumption)))), by have hb := HB2.out; exact (by repeat (first | exact Below.refl _ _ | assumption | refine below_drewN ?_ _ | refine below_alloc (Nat.le_refl _) ?_ _ | (refine Below.setCell ?_ (by first | exact Nat.le_refl _ | (simp; done) | (simp; omega) | omega) _) | (refine below_step (Nat.le_refl _) ?_ (by assumption))))⟩
                case measure => simp [intOf]; omega
              · have HSY' := Lib.hid (HSY.out hf)
                have hcmp : (FloatKind.f32.format.order xk[j] (F j).1[j] == some .gt) = true := hf
                clear HSN HSY hf
                go_wp2_with fail
                ((refine wp_region_rq_lit (fun _ _ _ => False) (by kernel_rfl) (by kernel_rfl) ?_); (iterate 12 (refine wpRq_det' (by kernel_rfl) (fun K hK => ?_); go_simp; refine hK _ ?_; clear hK K)); (refine wpRq_nil ?_); intro nq)
                have HA := OF_setD (w := wr.drewN nq) (OF_below HO2.out (by repeat (first | exact Below.refl _ _ | assumption | refine below_drewN ?_ _ | refine below_alloc (Nat.le_refl _) ?_ _ | (refine Below.setCell ?_ (by first | exact Nat.le_refl _ | (simp; done) | (simp; omega) | omega) _) | (refine below_step (Nat.le_refl _) ?_ (by assumption))))) f1 j xk[j]
                have HIa : OI w.heap.size ((wr.drewN nq).setCell ⟨g1, j, none⟩ (.float .f32 xk[j])) (.slice (some ⟨g2, 0, none⟩) m m) (F j).2 := kept_dis (u := .slice (some ⟨g1, 0, none⟩) m c1) (OI_below (w' := wr.drewN nq) HI2.out (by repeat (first | exact Below.refl _ _ | assumption | refine below_drewN ?_ _ | refine below_alloc (Nat.le_refl _) ?_ _ | (refine Below.setCell ?_ (by first | exact Nat.le_refl _ | (simp; done) | (simp; omega) | omega) _) | (refine below_step (Nat.le_refl _) ?_ (by assumption))))) HA.2 HD.out
                obtain ⟨hi1, hi2⟩ := OI_at HIa f2 j hij
                have HIb := OI_setD HIa f2 j (k : Int)
                have HAb := kept_dis (u := .slice (some ⟨g2, 0, none⟩) m m) HA.1 HIb.2 HD.out.symm
                have gB1 : w.heap.size ≤ g1 := (World.ownsRow.lt HA.1 g1 rfl).1
                have gB2 : w.heap.size ≤ g2 := (World.ownsRow.lt HIb.1 g2 rfl).1
                have HAb' := Lib.hid HAb
                have HIb' := Lib.hid HIb.1
                clear HA HIa HIb HAb
                go_wp2
                go_roundw
                case rel => exact ⟨j + 1, by omega, by go_num, by rw [HSY'.out]; exact HAb'.out, by rw [HSY'.out]; exact HIb'.out, by have hb := HB2.out; exact Below.setCell (Below.setCell (by repeat (first | exact Below.refl _ _ | assumption | refine below_drewN ?_ _ | refine below_alloc (Nat.le_refl _) ?_ _ | (refine Below.setCell ?_ (by first | exact Nat.le_refl _ | (simp; done) | (simp; omega) | omega) _) | (refine below_step (Nat.le_refl _) ?_ (by assumption)))) gB1 _) gB2 _⟩
                case measure => simp [intOf]; omega
            · obtain rfl : j = m := by omega
              have HF1 := Lib.hid hof
              have HF2 := Lib.hid hoi
              have HB3 := Lib.hid hb
              clear hof hoi hb hcell2 hcc
              go_wp2
              go_roundw
              case rel => exact ⟨k + 1, by omega, by go_num, by rw [HSU.out]; exact HF1.out, by rw [HSU.out]; exact HF2.out, HB3.out⟩
              case measure => simp [intOf]; omega
        · obtain rfl : k = us.length := by omega
          go_wp2
          go_ret3
          exact WOut.ok HG.out (by rw [HZ.out]; exact HXM.out) HLEN.out HOF.out HOI.out HD.out HB.out
end Go.Proofs.Ytmpajgpnbiaoiaa
