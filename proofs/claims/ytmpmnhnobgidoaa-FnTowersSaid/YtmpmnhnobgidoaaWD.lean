/- Walks: WorstLoads of the program. -/
import Derived.Test.YtmpmnhnobgidoaaWC
import Derived.Deep.RegionHeld3
import Derived.Laws.Cover3
namespace Go.Proofs.Ytmpmnhnobgidoaa
set_option linter.unusedSimpArgs false
set_option linter.unusedVariables false
open Go.RowKit Go.Fl
/-- 'a == nil', a slice. -/
theorem run_eql_slice_nil {P : Program} (w : World) (t e : TypeId) (a : Option Addr) (l c : Nat) (h : P.underlying t = some (.slice e)) : (binOp .eql t (.slice a l c) (.slice none 0 0)).run P w = .ok (.bool a.isNone) w := by
  have := run_equal_slice_nil (P := P) w t e a l c h
  simp [binOp, this]
set_option maxRecDepth 10000 in
set_option maxHeartbeats 4000000 in
theorem f_Clone (v : Value) (xs : List Nat) (w : World) (hx : RF w v xs) (hne : xs ≠ []) (hl : xs.length ≤ 1048576) :
    Calls Try.prog 54 #[v] w fun e w' => ∃ g c, e = .returned (.slice (some ⟨g, 0, none⟩) xs.length c) ∧ OF w.heap.size w' (.slice (some ⟨g, 0, none⟩) xs.length c) xs ∧ Below w.heap.size w w' := by
  have HX := Lib.hid hx
  obtain ⟨p, cap, rfl, hm, hc⟩ := hx
  obtain ⟨b, off, rfl, hcell⟩ := hc.resolve_left (fun e => hne (List.eq_nil_of_length_eq_zero e))
  have HNE := Lib.hid hne
  have HL := Lib.hid hl
  clear hc hcell hne hl hm
  go_enter Try.func54, Try.ntmps54
  have hnl : ∀ w, (binOp .eql 24 (.slice (some ⟨b, off, none⟩) xs.length cap) (.slice none 0 0)).run Try.prog w = .ok (.bool false) w := fun w => run_eql_slice_nil w _ 26 _ _ _ Try.underlying24
  go_wp2_with (at_builtin; refine wpList_copyF w.heap.size xs rfl rfl rfl rfl ?_ ?_ ?_ HNE.out (Nat.le_succ_of_le HL.out) ?_ ?_)
  case _ => exact World.ownsRow_lit _ #[] 0 (by simp) (by unfold maxLen; omega) rfl
  case _ => exact fun h => absurd (show Value.slice (some ⟨w.heap.size, 0, none⟩) 0 0 = Value.slice none 0 0 from h) (by simp)
  case _ => exact RF_below HX.out (by repeat (first | exact Below.refl _ _ | assumption | refine below_drewN ?_ _ | refine below_alloc (Nat.le_refl _) ?_ _ | (refine Below.setCell ?_ (by first | exact Nat.le_refl _ | (simp; done) | (simp; omega) | omega) _) | (refine below_step (Nat.le_refl _) ?_ (by assumption))))
  case _ => simp
  intro u w1 O1 hnil hb1
  obtain ⟨g1, c1, e1⟩ : ∃ g1 c1, u = .slice (some ⟨g1, 0, none⟩) xs.length c1 := by
    rcases O1.2 with ⟨e, -⟩ | ⟨g, cap, cur, e, -⟩
    · exact absurd e hnil
    · exact ⟨g, cap, e⟩
  subst e1
  have HB1 : Hid (Below w.heap.size w w1) := Below.trans (by repeat (first | exact Below.refl _ _ | assumption | refine below_drewN ?_ _ | refine below_alloc (Nat.le_refl _) ?_ _ | (refine Below.setCell ?_ (by first | exact Nat.le_refl _ | (simp; done) | (simp; omega) | omega) _) | (refine below_step (Nat.le_refl _) ?_ (by assumption)))) hb1
  have HO1 := Lib.hid O1
  clear O1 hb1
  go_wp2
  go_ret
  exact ⟨g1, c1, rfl, HO1.out, HB1.out⟩
theorem cell_alloc_keep {w : World} {a : Addr} {v : Value} (h : w.cell? a = some v) (o : Obj) : (w.alloc o).cell? a = some v := (Below.cell (show Below w.heap.size w (w.alloc o) from below_alloc (Nat.le_refl _) (Below.refl _ _) o) (p := a) (block_lt_of_cell h)).trans h
theorem cell_below_keep {w w' : World} {a : Addr} {v : Value} (h : w.cell? a = some v) (hb : Below w.heap.size w w') : w'.cell? a = some v := (hb.cell (p := a) (block_lt_of_cell h)).trans h
set_option maxHeartbeats 8000000 in
theorem i_WorstLoads (v : Value) (us : List Value) (xss : List (List Nat)) (w : World) (hx : RFF w v us xss) : Calls Try.prog 15 #[v] w fun e w' => WOut xss w e w' := by
  obtain ⟨⟨p1, cap1, rfl, hm1, hc1⟩, hlen, hrl⟩ := hx
  have HLEN := Lib.hid hlen
  have HRL := Lib.hid hrl
  clear hrl
  by_cases h1 : 1 ≤ us.length
  case neg =>
    have HG : Hid (wGood xss = false) := by show _ = _; unfold wGood; rw [show decide (1 ≤ xss.length) = false from decide_eq_false (by omega)]; simp
    clear hlen
    go_enter Try.func15, Try.ntmps15
    go_wp2
    go_ret3
    exact WOut.no HG.out (by repeat (first | exact Below.refl _ _ | assumption | refine below_drewN ?_ _ | refine below_alloc (Nat.le_refl _) ?_ _ | (refine Below.setCell ?_ (by first | exact Nat.le_refl _ | (simp; done) | (simp; omega) | omega) _) | (refine below_step (Nat.le_refl _) ?_ (by assumption))))
  by_cases h2 : us.length ≤ 32
  case neg =>
    have HG : Hid (wGood xss = false) := by show _ = _; unfold wGood; rw [show decide (xss.length ≤ 32) = false from decide_eq_false (by omega)]; simp
    clear hlen
    go_enter Try.func15, Try.ntmps15
    go_wp2
    go_ret3
    exact WOut.no HG.out (by repeat (first | exact Below.refl _ _ | assumption | refine below_drewN ?_ _ | refine below_alloc (Nat.le_refl _) ?_ _ | (refine Below.setCell ?_ (by first | exact Nat.le_refl _ | (simp; done) | (simp; omega) | omega) _) | (refine below_step (Nat.le_refl _) ?_ (by assumption))))
  obtain ⟨b, off, rfl, hcell⟩ := hc1.resolve_left (by omega)
  have HC := Lib.hid hcell
  have h0x : 0 < xss.length := by omega
  have hn0 : 0 < us.length := by omega
  have hc0 : w.cell? ⟨b, off, none⟩ = some us[0] := by have := hcell 0 us[0] (by simp); simpa using this
  obtain ⟨p0, cap0, e0, hm0, hcc0⟩ := HRL.out 0 (by omega) h0x
  have HR0 : Hid (RF w (.slice p0 xss[0].length cap0) xss[0]) := ⟨p0, cap0, rfl, hm0, hcc0⟩
  rw [e0] at hc0
  have HZ : Hid (rowAt xss 0 = xss[0]) := rowAt_eq h0x
  clear hcell hc1 hlen e0 hcc0
  generalize xss[0] = x0 at *
  go_enter Try.func15, Try.ntmps15
  go_wp2_with fail
  go_loopw [23] (fun i wr => ∃ k n : Nat, k ≤ us.length ∧ i = .int .i64 k ∧ wr = w.drewN n ∧ Hid (∀ j (hj : j < xss.length), j < k → rowOk xss xss[j] = true)) (fun i _ => us.length - (intOf i).toNat)
  case atStart => exact ⟨0, 0, Nat.zero_le _, rfl, rfl, fun j _ h => absurd h (Nat.not_lt_zero _)⟩
  case round =>
    obtain ⟨k, n, hk, rfl, rfl, hok⟩ := hrel
    by_cases hlt : k < us.length
    · have hltx : k < xss.length := by have := HLEN.out; omega
      have hc : w.cell? ⟨b, off + k, none⟩ = some us[k] := HC.out k _ (by simp [hlt])
      have HRK := Lib.hid (HRL.out k hlt hltx)
      obtain ⟨p, c, e, hmk, -⟩ := HRK.out
      have HK : Hid (rowOk xss xss[k] = true → ∀ j (hj : j < xss.length), j < k + 1 → rowOk xss xss[j] = true) := fun h j hj h2 => by
        by_cases e : j = k
        · subst e; exact h
        · exact hok.out j hj (by omega)
      have HN : Hid (rowOk xss xss[k] = false → wGood xss = false) := fun h => wGood_no hltx h
      have HRO : Hid (rowOk xss xss[k] = (loadsOk xss[k] && xss[k].length == x0.length)) := by show rowOk xss xss[k] = _; unfold rowOk; rw [HZ.out]
      have HQ := Lib.hid (i_areLoads us[k] xss[k] (w.drewN n) HRK.out)
      rw [e] at hc HQ
      clear hok HRK e
      generalize xss[k] = xk at *
      cases hb1 : loadsOk xk
      · have HG := Lib.hid (HN.out (by rw [HRO.out, hb1]; rfl))
        rw [hb1] at HQ
        clear HK HN HRO hb1
        go_wp2_with (go_at_call 48; refine HQ.out.mono ?_; rintro e w' ⟨rfl, n1, rfl⟩)
        go_ret3
        exact WOut.no HG.out (by repeat (first | exact Below.refl _ _ | assumption | refine below_drewN ?_ _ | refine below_alloc (Nat.le_refl _) ?_ _ | (refine Below.setCell ?_ (by first | exact Nat.le_refl _ | (simp; done) | (simp; omega) | omega) _) | (refine below_step (Nat.le_refl _) ?_ (by assumption))))
      · rw [hb1] at HQ
        have hxn : xk.length ≤ 64 := by unfold loadsOk at hb1; simp at hb1; omega
        by_cases hle : xk.length = x0.length
        · have HR := Lib.hid (HK.out (by rw [HRO.out, hb1, hle]; simp))
          rw [hle] at hc HQ hmk hxn
          clear HK HN HRO hb1 hle
          go_wp2_with (go_at_call 48; refine HQ.out.mono ?_; rintro e w' ⟨rfl, n1, rfl⟩)
          go_roundw
          case rel => exact ⟨k + 1, _, by omega, by go_num, rfl, HR⟩
          case measure => simp [intOf]; omega
        · have HG := Lib.hid (HN.out (by rw [HRO.out, hb1]; simpa using hle))
          have hle' : ((xk.length : Int) == (x0.length : Int)) = false := by simp; omega
          clear HK HN HRO hb1
          go_wp2_with (go_at_call 48; refine HQ.out.mono ?_; rintro e w' ⟨rfl, n1, rfl⟩)
          go_ret3
          exact WOut.no HG.out (by repeat (first | exact Below.refl _ _ | assumption | refine below_drewN ?_ _ | refine below_alloc (Nat.le_refl _) ?_ _ | (refine Below.setCell ?_ (by first | exact Nat.le_refl _ | (simp; done) | (simp; omega) | omega) _) | (refine below_step (Nat.le_refl _) ?_ (by assumption))))
    · obtain rfl : k = us.length := by omega
      have hrow : ∀ j (hj : j < xss.length), rowOk xss xss[j] = true := fun j hj => hok.out j hj (by have := HLEN.out; omega)
      have HG := Lib.hid (wGood_yes (by have := HLEN.out; omega) (by have := HLEN.out; omega) hrow)
      obtain ⟨hll, hm1', hm2'⟩ := row_facts HZ.out h0x hrow
      have HLL := Lib.hid hll
      have hne : x0 ≠ [] := fun e => by rw [e] at hm1'; simp at hm1'
      have HNE := Lib.hid hne
      have HW0 : Hid (wall xss x0.length 0 = (x0, List.replicate x0.length 0)) := by show _ = _; unfold wall; rw [HZ.out]
      have HWL := Lib.hid (wall_len xss x0.length (by rw [HZ.out]))
      have HCL : Hid (∀ wX : World, Below w.heap.size w wX → Calls Try.prog 54 #[.slice p0 x0.length cap0] wX fun e w' => ∃ g c, e = .returned (.slice (some ⟨g, 0, none⟩) x0.length c) ∧ OF wX.heap.size w' (.slice (some ⟨g, 0, none⟩) x0.length c) x0 ∧ Below wX.heap.size wX w') := fun wX hb => f_Clone _ _ _ (RF_below HR0.out hb) hne (by omega)
      have hmk := run_make_row' (P := Try.prog) 32 2 (.int .i64 0) 8 Try.underlying32 (by kernel_rfl) rfl .i64 .i64 x0.length (by omega) (by omega)
      clear hok hrow hll hne
      go_wp2_with fail
      go_region_held3 (fun w' => w'.cell? ⟨b, off, none⟩ = some (.slice p0 x0.length cap0) ∧ Below w.heap.size w w')
        (first
          | (show _ ∧ _; refine ⟨?_, ?_⟩ <;> (first | assumption | exact below_drewN (Below.refl _ _) (n + 1)))
          | (show _ ∧ _; go_split_ands; refine ⟨cell_alloc_keep (by assumption) _, below_alloc (Nat.le_refl _) (by assumption) _⟩)
          | (show _ ∧ _; go_split_ands; refine ⟨cell_below_keep (by assumption) (by assumption), below_step (Nat.le_refl _) (by assumption) (by assumption)⟩))
        ((go_at_call 54; go_split_ands; refine (HCL.out _ (by assumption)).mono ?_; rintro e w' ⟨g1, c1, rfl, O1, hb1⟩))
      case _ =>
        have HB1 : Hid (Below w.heap.size w w') := below_step (Nat.le_refl _) (below_drewN (Below.refl w.heap.size w) (n + 1)) hb1
        have HO1 : Hid (OF w.heap.size (w'.alloc (.cells (madeCells #[Value.int .i64 0] x0.length) 2)) (.slice (some ⟨g1, 0, none⟩) x0.length c1) x0) := OF_below (B := w.heap.size) O1 (by repeat (first | exact Below.refl _ _ | assumption | refine below_drewN ?_ _ | refine below_alloc (Nat.le_refl _) ?_ _ | (refine Below.setCell ?_ (by first | exact Nat.le_refl _ | (simp; done) | (simp; omega) | omega) _) | (refine below_step (Nat.le_refl _) ?_ (by assumption))))
        have hstart := World.ownsRow_lit (base := w.heap.size) (e := 2) (size := 1) w' (madeCells #[Value.int .i64 0] x0.length) x0.length HB1.out.size (by unfold maxLen; omega) (by rw [size_madeCells, Nat.mul_one])
        rw [zero_cells] at hstart
        have Hs : Hid (OI w.heap.size (w'.alloc (.cells (madeCells #[Value.int .i64 0] x0.length) 2)) (.slice (some ⟨w'.heap.size, 0, none⟩) x0.length x0.length) (List.replicate x0.length 0)) := by show w'.alloc _ |>.ownsRow _ _ _ _ _ _; rw [List.length_replicate]; exact hstart
        have HD : Hid (Dis (.slice (some ⟨g1, 0, none⟩) x0.length c1) (.slice (some ⟨w'.heap.size, 0, none⟩) x0.length x0.length)) := fun q h1 h2 => by
          have h3 := (O1.lt q h1).2
          simp only [Value.ownBlock, Option.some.injEq] at h2
          omega
        have HC2 : Hid (Below w.heap.size w (w'.alloc (.cells (madeCells #[Value.int .i64 0] x0.length) 2))) := by have hb := HB1.out; exact (by repeat (first | exact Below.refl _ _ | assumption | refine below_drewN ?_ _ | refine below_alloc (Nat.le_refl _) ?_ _ | (refine Below.setCell ?_ (by first | exact Nat.le_refl _ | (simp; done) | (simp; omega) | omega) _) | (refine below_step (Nat.le_refl _) ?_ (by assumption))))
        clear hstart O1 hb1 HB1
        generalize w'.alloc (.cells (madeCells #[Value.int .i64 0] x0.length) 2) = wS at *
        generalize w'.heap.size = g2 at *
        clear hmk HCL hc0 HR0 hm0 hlt hk
        generalize hxm : x0.length = m at *
        have HXM := Lib.hid hxm
        clear hxm
        go_wp2_with fail
        go_loopw [51] (fun i wr => ∃ k : Nat, k ≤ us.length ∧ i = .int .i64 k ∧ OF w.heap.size wr (.slice (some ⟨g1, 0, none⟩) m c1) (wall xss m k).1 ∧ OI w.heap.size wr (.slice (some ⟨g2, 0, none⟩) m m) (wall xss m k).2 ∧ Below w.heap.size w wr) (fun i _ => us.length - (intOf i).toNat)
        case atStart => exact ⟨0, Nat.zero_le _, rfl, by rw [HW0.out]; exact HO1.out, by rw [HW0.out]; exact Hs.out, HC2.out⟩
        case round =>
          obtain ⟨k, hk, rfl, hof, hoi, hb⟩ := hrel
          have HOF := Lib.hid hof
          have HOI := Lib.hid hoi
          have HB := Lib.hid hb
          obtain ⟨wl1, wl2⟩ := HWL.out k
          clear hof hoi
          by_cases hlt : k < us.length
          · have hltx : k < xss.length := by have := HLEN.out; omega
            have hc : w.cell? ⟨b, off + k, none⟩ = some us[k] := HC.out k _ (by simp [hlt])
            have HRK := HRL.out k hlt hltx
            obtain ⟨p, c, e, hmk, hcc⟩ := HRK
            have hkl := HLL.out k hltx
            have HSU : Hid (wall xss m (k + 1) = wrow (rowAt xss k) k (wall xss m k) m) := rfl
            rw [rowAt_eq hltx] at HSU
            have HST : Hid (∀ j, (wrow xss[k] k (wall xss m k) j).1.length = m ∧ (wrow xss[k] k (wall xss m k) j).2.length = m) := fun j => ⟨(wrow_len _ _ _ j).1.trans wl1, (wrow_len _ _ _ j).2.trans wl2⟩
            have HWS : Hid (∀ j, wrow xss[k] k (wall xss m k) (j + 1) = wstep xss[k] k (wrow xss[k] k (wall xss m k) j) j) := fun j => rfl
            have HW00 : Hid (wrow xss[k] k (wall xss m k) 0 = wall xss m k) := rfl
            rw [e, hkl] at hc
            rw [hkl] at hcc
            have hcr : wr.cell? ⟨b, off + k, none⟩ = some (.slice p m c) := (hb.cell (p := ⟨b, off + k, none⟩) (block_lt_of_cell hc)).trans hc
            rw [← HW00.out] at HOF HOI
            generalize xss[k] = xk at *
            generalize wrow xk k (wall xss m k) = F at *
            clear e wl1 wl2 hb
            obtain ⟨b2, off2, rfl, hcell2⟩ := hcc.resolve_left (by omega)
            go_wp2_with fail
            go_loopw [58] (fun i wr => ∃ j : Nat, j ≤ m ∧ i = .int .i64 j ∧ OF w.heap.size wr (.slice (some ⟨g1, 0, none⟩) m c1) (F j).1 ∧ OI w.heap.size wr (.slice (some ⟨g2, 0, none⟩) m m) (F j).2 ∧ Below w.heap.size w wr) (fun i _ => m - (intOf i).toNat)
            case atStart => exact ⟨0, Nat.zero_le _, rfl, OF_below HOF.out (by repeat (first | exact Below.refl _ _ | assumption | refine below_drewN ?_ _ | refine below_alloc (Nat.le_refl _) ?_ _ | (refine Below.setCell ?_ (by first | exact Nat.le_refl _ | (simp; done) | (simp; omega) | omega) _) | (refine below_step (Nat.le_refl _) ?_ (by assumption)))), OI_below HOI.out (by repeat (first | exact Below.refl _ _ | assumption | refine below_drewN ?_ _ | refine below_alloc (Nat.le_refl _) ?_ _ | (refine Below.setCell ?_ (by first | exact Nat.le_refl _ | (simp; done) | (simp; omega) | omega) _) | (refine below_step (Nat.le_refl _) ?_ (by assumption)))), by have hb := HB.out; exact (by repeat (first | exact Below.refl _ _ | assumption | refine below_drewN ?_ _ | refine below_alloc (Nat.le_refl _) ?_ _ | (refine Below.setCell ?_ (by first | exact Nat.le_refl _ | (simp; done) | (simp; omega) | omega) _) | (refine below_step (Nat.le_refl _) ?_ (by assumption))))⟩
            case round =>
              obtain ⟨j, hj, rfl, hof, hoi, hb⟩ := hrel
              by_cases hjl : j < m
              · obtain ⟨f1, f2⟩ := HST.out j
                have hxj : j < xk.length := by omega
                have hr0 : w.cell? ⟨b2, off2 + j, none⟩ = some (.float .f32 xk[j]) := hcell2 j _ (by simp [hxj])
                have hr1 : wr.cell? ⟨b2, off2 + j, none⟩ = some (.float .f32 xk[j]) := (hb.cell (p := ⟨b2, off2 + j, none⟩) (block_lt_of_cell hr0)).trans hr0
                have hwj : j < (F j).1.length := by omega
                have hij : j < (F j).2.length := by omega
                obtain ⟨hw1, hfz⟩ := OF_at hof f1 j hwj
                have HSY := Lib.hid (fun h => (HWS.out j).trans (wstep_yes (i := k) hxj hwj h))
                have HSN := Lib.hid (fun h => (HWS.out j).trans (wstep_no (i := k) hxj hwj h))
                have HO2 := Lib.hid hof
                have HI2 := Lib.hid hoi
                have HB2 := Lib.hid hb
                clear hr0 hcell2 hcc hof hoi hb hcr
                cases hf : fgt .f32 xk[j] (F j).1[j]
                · have HSN' := Lib.hid (HSN.out hf)
                  have hcmp : (FloatKind.f32.format.order xk[j] (F j).1[j] == some .gt) = false := hf
                  clear HSN HSY hf
                  go_wp2
                  go_roundw
                  case rel => exact ⟨j + 1, by omega, by go_num, by rw [HSN'.out]; exact OF_below HO2.out (by repeat (first | exact Below.refl _ _ | assumption | refine below_drewN ?_ _ | refine below_alloc (Nat.le_refl _) ?_ _ | (refine Below.setCell ?_ (by first | exact Nat.le_refl _ | (simp; done) | (simp; omega) | omega) _) | (refine below_step (Nat.le_refl _) ?_ (by assumption)))), by rw [HSN'.out]; exact OI_below HI2.out (by repeat (first | exact Below.refl _ _ | assumption | refine below_drewN ?_ _ | refine below_alloc (Nat.le_refl _) ?_ _ | (refine Below.setCell ?_ (by first | exact Nat.le_refl _ | (simp; done) | (simp; omega) | omega) _) | (refine below_step (Nat.le_refl _) ?_ (by assumption)))), by have hb := HB2.out; exact (by repeat (first | exact Below.refl _ _ | assumption | refine below_drewN ?_ _ | refine below_alloc (Nat.le_refl _) ?_ _ | (refine Below.setCell ?_ (by first | exact Nat.le_refl _ | (simp; done) | (simp; omega) | omega) _) | (refine below_step (Nat.le_refl _) ?_ (by assumption))))⟩
                  case measure => simp [intOf]; omega
                · have HSY' := Lib.hid (HSY.out hf)
                  have hcmp : (FloatKind.f32.format.order xk[j] (F j).1[j] == some .gt) = true := hf
                  clear HSN HSY hf
                  have HA := OF_setD HO2.out f1 j xk[j]
                  have HIa : OI w.heap.size (wr.setCell ⟨g1, j, none⟩ (.float .f32 xk[j])) (.slice (some ⟨g2, 0, none⟩) m m) (F j).2 := kept_dis (u := .slice (some ⟨g1, 0, none⟩) m c1) HI2.out HA.2 HD.out
                  obtain ⟨hi1, hi2⟩ := OI_at HIa f2 j hij
                  have HIb := OI_setD HIa f2 j (k : Int)
                  have HAb := kept_dis (u := .slice (some ⟨g2, 0, none⟩) m m) HA.1 HIb.2 HD.out.symm
                  have gB1 : w.heap.size ≤ g1 := (World.ownsRow.lt HA.1 g1 rfl).1
                  have gB2 : w.heap.size ≤ g2 := (World.ownsRow.lt HIb.1 g2 rfl).1
                  have HAb' := Lib.hid HAb
                  have HIb' := Lib.hid HIb.1
                  clear HA HIa HIb HAb
                  go_wp2
                  go_roundw
                  case rel => exact ⟨j + 1, by omega, by go_num, by rw [HSY'.out]; exact HAb'.out, by rw [HSY'.out]; exact HIb'.out, by have hb := HB2.out; exact Below.setCell (Below.setCell (by repeat (first | exact Below.refl _ _ | assumption | refine below_drewN ?_ _ | refine below_alloc (Nat.le_refl _) ?_ _ | (refine Below.setCell ?_ (by first | exact Nat.le_refl _ | (simp; done) | (simp; omega) | omega) _) | (refine below_step (Nat.le_refl _) ?_ (by assumption)))) gB1 _) gB2 _⟩
                  case measure => simp [intOf]; omega
              · obtain rfl : j = m := by omega
                have HF1 := Lib.hid hof
                have HF2 := Lib.hid hoi
                have HB3 := Lib.hid hb
                clear hof hoi hb hcell2 hcc hcr
                go_wp2
                go_roundw
                case rel => exact ⟨k + 1, by omega, by go_num, by rw [HSU.out]; exact HF1.out, by rw [HSU.out]; exact HF2.out, HB3.out⟩
                case measure => simp [intOf]; omega
          · obtain rfl : k = us.length := by omega
            clear hb
            go_wp2
            go_ret3
            exact WOut.ok HG.out (by rw [HZ.out]; exact HXM.out) HLEN.out HOF.out HOI.out HD.out HB.out
      case _ =>
        have HB1 : Hid (Below w.heap.size w w') := below_step (Nat.le_refl _) (show Below w.heap.size w ((w.drewN (n + 1)).alloc (.cells (madeCells #[Value.int .i64 0] x0.length) 2)) from (by repeat (first | exact Below.refl _ _ | assumption | refine below_drewN ?_ _ | refine below_alloc (Nat.le_refl _) ?_ _ | (refine Below.setCell ?_ (by first | exact Nat.le_refl _ | (simp; done) | (simp; omega) | omega) _) | (refine below_step (Nat.le_refl _) ?_ (by assumption))))) hb1
        have HO1 : Hid (OF w.heap.size w' (.slice (some ⟨g1, 0, none⟩) x0.length c1) x0) := ⟨O1.1, O1.2.imp id fun ⟨g, cap, cur, he, hbb, hr⟩ => ⟨g, cap, cur, he, Nat.le_trans (by simp) hbb, hr⟩⟩
        have hstart := World.ownsRow_lit (base := w.heap.size) (e := 2) (size := 1) (w.drewN (n + 1)) (madeCells #[Value.int .i64 0] x0.length) x0.length (Nat.le_refl _) (by unfold maxLen; omega) (by rw [size_madeCells, Nat.mul_one])
        rw [zero_cells] at hstart
        have Hs0 : OI w.heap.size ((w.drewN (n + 1)).alloc (.cells (madeCells #[Value.int .i64 0] x0.length) 2)) (.slice (some ⟨w.heap.size, 0, none⟩) x0.length x0.length) (List.replicate x0.length 0) := by show (w.drewN (n + 1)).alloc _ |>.ownsRow _ _ _ _ _ _; rw [List.length_replicate]; exact hstart
        have Hs := Lib.hid (OI_below Hs0 hb1)
        have HD : Hid (Dis (.slice (some ⟨g1, 0, none⟩) x0.length c1) (.slice (some ⟨w.heap.size, 0, none⟩) x0.length x0.length)) := fun q h1 h2 => by
          have h3 := (O1.lt q h1).1
          simp only [Value.ownBlock, Option.some.injEq] at h2
          simp at h3
          omega
        have HC2 : Hid (Below w.heap.size w w') := HB1.out
        clear hstart O1 hb1 HB1 Hs0
        clear hmk HCL hc0 HR0 hm0 hlt hk
        generalize hxm : x0.length = m at *
        have HXM := Lib.hid hxm
        clear hxm
        go_wp2_with fail
        go_loopw [51] (fun i wr => ∃ k : Nat, k ≤ us.length ∧ i = .int .i64 k ∧ OF w.heap.size wr (.slice (some ⟨g1, 0, none⟩) m c1) (wall xss m k).1 ∧ OI w.heap.size wr (.slice (some ⟨w.heap.size, 0, none⟩) m m) (wall xss m k).2 ∧ Below w.heap.size w wr) (fun i _ => us.length - (intOf i).toNat)
        case atStart => exact ⟨0, Nat.zero_le _, rfl, by rw [HW0.out]; exact HO1.out, by rw [HW0.out]; exact Hs.out, HC2.out⟩
        case round =>
          obtain ⟨k, hk, rfl, hof, hoi, hb⟩ := hrel
          have HOF := Lib.hid hof
          have HOI := Lib.hid hoi
          have HB := Lib.hid hb
          obtain ⟨wl1, wl2⟩ := HWL.out k
          clear hof hoi
          by_cases hlt : k < us.length
          · have hltx : k < xss.length := by have := HLEN.out; omega
            have hc : w.cell? ⟨b, off + k, none⟩ = some us[k] := HC.out k _ (by simp [hlt])
            have HRK := HRL.out k hlt hltx
            obtain ⟨p, c, e, hmk, hcc⟩ := HRK
            have hkl := HLL.out k hltx
            have HSU : Hid (wall xss m (k + 1) = wrow (rowAt xss k) k (wall xss m k) m) := rfl
            rw [rowAt_eq hltx] at HSU
            have HST : Hid (∀ j, (wrow xss[k] k (wall xss m k) j).1.length = m ∧ (wrow xss[k] k (wall xss m k) j).2.length = m) := fun j => ⟨(wrow_len _ _ _ j).1.trans wl1, (wrow_len _ _ _ j).2.trans wl2⟩
            have HWS : Hid (∀ j, wrow xss[k] k (wall xss m k) (j + 1) = wstep xss[k] k (wrow xss[k] k (wall xss m k) j) j) := fun j => rfl
            have HW00 : Hid (wrow xss[k] k (wall xss m k) 0 = wall xss m k) := rfl
            rw [e, hkl] at hc
            rw [hkl] at hcc
            have hcr : wr.cell? ⟨b, off + k, none⟩ = some (.slice p m c) := (hb.cell (p := ⟨b, off + k, none⟩) (block_lt_of_cell hc)).trans hc
            rw [← HW00.out] at HOF HOI
            generalize xss[k] = xk at *
            generalize wrow xk k (wall xss m k) = F at *
            clear e wl1 wl2 hb
            obtain ⟨b2, off2, rfl, hcell2⟩ := hcc.resolve_left (by omega)
            go_wp2_with fail
            go_loopw [58] (fun i wr => ∃ j : Nat, j ≤ m ∧ i = .int .i64 j ∧ OF w.heap.size wr (.slice (some ⟨g1, 0, none⟩) m c1) (F j).1 ∧ OI w.heap.size wr (.slice (some ⟨w.heap.size, 0, none⟩) m m) (F j).2 ∧ Below w.heap.size w wr) (fun i _ => m - (intOf i).toNat)
            case atStart => exact ⟨0, Nat.zero_le _, rfl, OF_below HOF.out (by repeat (first | exact Below.refl _ _ | assumption | refine below_drewN ?_ _ | refine below_alloc (Nat.le_refl _) ?_ _ | (refine Below.setCell ?_ (by first | exact Nat.le_refl _ | (simp; done) | (simp; omega) | omega) _) | (refine below_step (Nat.le_refl _) ?_ (by assumption)))), OI_below HOI.out (by repeat (first | exact Below.refl _ _ | assumption | refine below_drewN ?_ _ | refine below_alloc (Nat.le_refl _) ?_ _ | (refine Below.setCell ?_ (by first | exact Nat.le_refl _ | (simp; done) | (simp; omega) | omega) _) | (refine below_step (Nat.le_refl _) ?_ (by assumption)))), by have hb := HB.out; exact (by repeat (first | exact Below.refl _ _ | assumption | refine below_drewN ?_ _ | refine below_alloc (Nat.le_refl _) ?_ _ | (refine Below.setCell ?_ (by first | exact Nat.le_refl _ | (simp; done) | (simp; omega) | omega) _) | (refine below_step (Nat.le_refl _) ?_ (by assumption))))⟩
            case round =>
              obtain ⟨j, hj, rfl, hof, hoi, hb⟩ := hrel
              by_cases hjl : j < m
              · obtain ⟨f1, f2⟩ := HST.out j
                have hxj : j < xk.length := by omega
                have hr0 : w.cell? ⟨b2, off2 + j, none⟩ = some (.float .f32 xk[j]) := hcell2 j _ (by simp [hxj])
                have hr1 : wr.cell? ⟨b2, off2 + j, none⟩ = some (.float .f32 xk[j]) := (hb.cell (p := ⟨b2, off2 + j, none⟩) (block_lt_of_cell hr0)).trans hr0
                have hwj : j < (F j).1.length := by omega
                have hij : j < (F j).2.length := by omega
                obtain ⟨hw1, hfz⟩ := OF_at hof f1 j hwj
                have HSY := Lib.hid (fun h => (HWS.out j).trans (wstep_yes (i := k) hxj hwj h))
                have HSN := Lib.hid (fun h => (HWS.out j).trans (wstep_no (i := k) hxj hwj h))
                have HO2 := Lib.hid hof
                have HI2 := Lib.hid hoi
                have HB2 := Lib.hid hb
                clear hr0 hcell2 hcc hof hoi hb hcr
                cases hf : fgt .f32 xk[j] (F j).1[j]
                · have HSN' := Lib.hid (HSN.out hf)
                  have hcmp : (FloatKind.f32.format.order xk[j] (F j).1[j] == some .gt) = false := hf
                  clear HSN HSY hf
                  go_wp2
                  go_roundw
                  case rel => exact ⟨j + 1, by omega, by go_num, by rw [HSN'.out]; exact OF_below HO2.out (by repeat (first | exact Below.refl _ _ | assumption | refine below_drewN ?_ _ | refine below_alloc (Nat.le_refl _) ?_ _ | (refine Below.setCell ?_ (by first | exact Nat.le_refl _ | (simp; done) | (simp; omega) | omega) _) | (refine below_step (Nat.le_refl _) ?_ (by assumption)))), by rw [HSN'.out]; exact OI_below HI2.out (by repeat (first | exact Below.refl _ _ | assumption | refine below_drewN ?_ _ | refine below_alloc (Nat.le_refl _) ?_ _ | (refine Below.setCell ?_ (by first | exact Nat.le_refl _ | (simp; done) | (simp; omega) | omega) _) | (refine below_step (Nat.le_refl _) ?_ (by assumption)))), by have hb := HB2.out; exact (by repeat (first | exact Below.refl _ _ | assumption | refine below_drewN ?_ _ | refine below_alloc (Nat.le_refl _) ?_ _ | (refine Below.setCell ?_ (by first | exact Nat.le_refl _ | (simp; done) | (simp; omega) | omega) _) | (refine below_step (Nat.le_refl _) ?_ (by assumption))))⟩
                  case measure => simp [intOf]; omega
                · have HSY' := Lib.hid (HSY.out hf)
                  have hcmp : (FloatKind.f32.format.order xk[j] (F j).1[j] == some .gt) = true := hf
                  clear HSN HSY hf
                  have HA := OF_setD HO2.out f1 j xk[j]
                  have HIa : OI w.heap.size (wr.setCell ⟨g1, j, none⟩ (.float .f32 xk[j])) (.slice (some ⟨w.heap.size, 0, none⟩) m m) (F j).2 := kept_dis (u := .slice (some ⟨g1, 0, none⟩) m c1) HI2.out HA.2 HD.out
                  obtain ⟨hi1, hi2⟩ := OI_at HIa f2 j hij
                  have HIb := OI_setD HIa f2 j (k : Int)
                  have HAb := kept_dis (u := .slice (some ⟨w.heap.size, 0, none⟩) m m) HA.1 HIb.2 HD.out.symm
                  have gB1 : w.heap.size ≤ g1 := (World.ownsRow.lt HA.1 g1 rfl).1
                  have gB2 : w.heap.size ≤ w.heap.size := (World.ownsRow.lt HIb.1 w.heap.size rfl).1
                  have HAb' := Lib.hid HAb
                  have HIb' := Lib.hid HIb.1
                  clear HA HIa HIb HAb
                  go_wp2
                  go_roundw
                  case rel => exact ⟨j + 1, by omega, by go_num, by rw [HSY'.out]; exact HAb'.out, by rw [HSY'.out]; exact HIb'.out, by have hb := HB2.out; exact Below.setCell (Below.setCell (by repeat (first | exact Below.refl _ _ | assumption | refine below_drewN ?_ _ | refine below_alloc (Nat.le_refl _) ?_ _ | (refine Below.setCell ?_ (by first | exact Nat.le_refl _ | (simp; done) | (simp; omega) | omega) _) | (refine below_step (Nat.le_refl _) ?_ (by assumption)))) gB1 _) gB2 _⟩
                  case measure => simp [intOf]; omega
              · obtain rfl : j = m := by omega
                have HF1 := Lib.hid hof
                have HF2 := Lib.hid hoi
                have HB3 := Lib.hid hb
                clear hof hoi hb hcell2 hcc hcr
                go_wp2
                go_roundw
                case rel => exact ⟨k + 1, by omega, by go_num, by rw [HSU.out]; exact HF1.out, by rw [HSU.out]; exact HF2.out, HB3.out⟩
                case measure => simp [intOf]; omega
          · obtain rfl : k = us.length := by omega
            clear hb
            go_wp2
            go_ret3
            exact WOut.ok HG.out (by rw [HZ.out]; exact HXM.out) HLEN.out HOF.out HOI.out HD.out HB.out
end Go.Proofs.Ytmpmnhnobgidoaa
