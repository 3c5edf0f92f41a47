/- Walks: the program's cycles of loads. -/
import Derived.Test.YtmpmnhnobgidoaaYC
import Derived.Deep.DeepCutAuto
import Derived.Deep.RegionLaw
namespace Go.Proofs.Ytmpmnhnobgidoaa
set_option linter.unusedSimpArgs false
set_option linter.unusedVariables false
open Go.RowKit Go.Fl

/-- Its world is known. -/
theorem i_cycleOf (a b : Nat) (wh : Bool) (w : World) : Calls Try.prog 63 #[.float .f32 a, .float .f32 b, .bool wh] w fun e w' => e = .returned (cyc (pair a b wh)) ∧ w' = w.alloc (.cells #[.float .f32 (pair a b wh).lo, .float .f32 (pair a b wh).hi, .bool (pair a b wh).wh] 47) := by
  cases hf : flt .f32 b a
  · have hf' : (FloatKind.f32.format.order b a == some .lt) = false := hf
    have e : Hid (pair a b wh = ⟨a, b, wh⟩) := by show _ = _; unfold pair; rw [hf]; rfl
    clear hf
    go_enter Try.func63, Try.ntmps63
    go_wp2
    rw [e.out]
    exact bodyPost_ret (v := cyc _) (by simp [results, Try.results63, go_sem]) rfl ⟨rfl, rfl⟩
  · have hf' : (FloatKind.f32.format.order b a == some .lt) = true := hf
    have e : Hid (pair a b wh = ⟨b, a, wh⟩) := by show _ = _; unfold pair; rw [hf]; rfl
    clear hf
    go_enter Try.func63, Try.ntmps63
    go_wp2
    rw [e.out]
    exact bodyPost_ret (v := cyc _) (by simp [results, Try.results63, go_sem]) rfl ⟨rfl, rfl⟩
theorem i_rangeOf' (c : Cyc) (h : isNan .f32 (rng c) = false) (w : World) : Calls Try.prog 60 #[cyc c] w fun e w' => e = .returned (.float .f32 (rng c)) ∧ Below w.heap.size w w' :=
  (i_rangeOf c w).mono fun e w' ⟨⟨r, he, hr⟩, hb⟩ => ⟨by rw [he, exact_of hr h], hb⟩
theorem below_cells {w w' : World} (hb : Below w.heap.size w w') : ∀ a : Addr, a.block < w.heap.size → w'.cell? a = w.cell? a := fun a h => hb.cell (p := a) h
theorem cell_set_keep {w : World} {a b : Addr} {u v : Value} (h : w.cell? b = some u) (hne : a.block ≠ b.block) : (w.setCell a v).cell? b = some u :=
  (World.cell?_setCell_other w _ _ _ (fun e => hne (by rw [e]))).trans h
theorem CycAt_alloc {w : World} {b : Nat} {c : Cyc} (h : CycAt w b 0 c) (o : Obj) : CycAt (w.alloc o) b 0 c := ⟨cell_alloc_keep' h.1 o, cell_alloc_keep' h.2.1 o, cell_alloc_keep' h.2.2 o⟩
theorem CycAt_drew {w : World} {b : Nat} {c : Cyc} (h : CycAt w b 0 c) : CycAt w.drew b 0 c := h
theorem Below_drew {B : Nat} {a w : World} (h : Below B a w) : Below B a w.drew := below_drewN h 1
theorem below_frozen {w w' : World} (hb : Below w.heap.size w w') : ∀ a : Addr, a.block < w.heap.size → w'.frozen? a = w.frozen? a := fun a h => by
  obtain ⟨-, -, -, -, hbl⟩ := hb
  simp [World.frozen?, hbl a.block h]
def CycOut (xs : List Nat) (w : World) (e : Ending) (w' : World) : Prop :=
  ∃ u, e = .returned (.tuple #[u, .bool (loadsOk xs)]) ∧ OC w.heap.size w' u (if loadsOk xs then cycles xs else []) ∧ Below w.heap.size w w'
theorem OC_nil' (B : Nat) (w : World) : OC B w (.slice none 0 0) [] := World.ownsRow_nil _ _ _ _
theorem CycOut.no {xs : List Nat} {w w' : World} (h : loadsOk xs = false) (hb : Below w.heap.size w w') : CycOut xs w (.returned (.tuple #[.slice none 0 0, .bool false])) w' :=
  ⟨_, by rw [h], by rw [h]; exact OC_nil' _ _, hb⟩
theorem CycOut.ok {xs : List Nat} {u : Value} {w w' : World} (h : loadsOk xs = true) (ho : OC w.heap.size w' u (cycles xs)) (hb : Below w.heap.size w w') : CycOut xs w (.returned (.tuple #[u, .bool true])) w' :=
  ⟨_, by rw [h], by rw [h]; exact ho, hb⟩
theorem loads_len {xs : List Nat} (h : loadsOk xs = true) : xs.length ≤ 64 ∧ finAll xs = true := by
  unfold loadsOk at h
  simp at h
  exact ⟨h.1.2, h.2⟩
theorem s_CyclesOf (v : Value) (xs : List Nat) (w : World) (hx : RF w v xs) : Calls Try.prog 18 #[v] w (CycOut xs w) := by
  have HX := Lib.hid hx
  clear hx
  cases hlo : loadsOk xs
  · have HL := Lib.hid hlo
    have HQ := Lib.hid (fun W (h : RF W v xs) => s_l07Loads v xs W h)
    rw [hlo] at HQ
    clear hlo
    go_enter Try.func18, Try.ntmps18
    go_wp2_with (go_at_call 55; refine (HQ.out _ HX.out).mono ?_; rintro e w' ⟨rfl, n, rfl⟩)
    go_ret2
    exact CycOut.no HL.out (by repeat (first | exact Below.refl _ _ | assumption | refine below_drewN ?_ _ | refine below_alloc (Nat.le_refl _) ?_ _ | (refine Below.setCell ?_ (by first | exact Nat.le_refl _ | (simp; done) | (simp; omega) | omega) _) | (refine below_step (Nat.le_refl _) ?_ (by assumption))))
  · have HL := Lib.hid hlo
    have HQ := Lib.hid (fun W (h : RF W v xs) => s_l07Loads v xs W h)
    rw [hlo] at HQ
    clear hlo
    go_enter Try.func18, Try.ntmps18
    go_wp2_with (go_at_call 55; refine (HQ.out _ HX.out).mono ?_; rintro e w' ⟨rfl, n, rfl⟩)
    refine (s_l07Cycles v xs _ (HX.out.drewN n) (loads_len HL.out).2 (loads_len HL.out).1).mono ?_
    rintro e w1 ⟨u, rfl, ho, hb⟩
    go_wp2
    go_ret2
    exact CycOut.ok HL.out ho (below_step (Nat.le_refl _) (below_drewN (Below.refl _ _) n) hb)
set_option maxRecDepth 100000 in
set_option maxHeartbeats 8000000 in
theorem i_CyclesOf (v : Value) (xs : List Nat) (w : World) (hx : RF w v xs) : Calls Try.prog 22 #[v] w (CycOut xs w) := by
  have HX := Lib.hid hx
  clear hx
  cases hlo : loadsOk xs
  · have HL := Lib.hid hlo
    have HQ := Lib.hid (fun W (h : RF W v xs) => i_areLoads v xs W h)
    rw [hlo] at HQ
    clear hlo
    go_enter Try.func22, Try.ntmps22
    go_wp2_with (go_at_call 48; refine (HQ.out _ HX.out).mono ?_; rintro e w' ⟨rfl, n, rfl⟩)
    go_ret2
    exact CycOut.no HL.out (by repeat (first | exact Below.refl _ _ | assumption | refine below_drewN ?_ _ | refine below_alloc (Nat.le_refl _) ?_ _ | (refine Below.setCell ?_ (by first | exact Nat.le_refl _ | (simp; done) | (simp; omega) | omega) _) | (refine below_step (Nat.le_refl _) ?_ (by assumption))))
  have HL := Lib.hid hlo
  have hel : (ends xs).length ≤ 64 := by have := ends_le xs; have := (loads_len hlo).1; omega
  have HXL := Lib.hid (loads_len hlo).1
  have HEF := Lib.hid (ends_fin (loads_len hlo).2)
  have HINV := Lib.hid (cycTo_inv (ends xs) (ends_fin (loads_len hlo).2))
  have HSUC := Lib.hid (cycTo_succ (ends xs))
  have HCY : Hid (cycles xs = (cycTo (ends xs) (ends xs).length).2 ++ tails (cycTo (ends xs) (ends xs).length).1 ((cycTo (ends xs) (ends xs).length).1.length - 1)) := rfl
  have HQ := Lib.hid (fun W (h : RF W v xs) => i_areLoads v xs W h)
  rw [hlo] at HQ
  clear hlo
  go_enter Try.func22, Try.ntmps22
  go_wp2_with (go_at_call 48; refine (HQ.out _ HX.out).mono ?_; rintro e w' ⟨rfl, n, rfl⟩)
  refine (i_endsOf v xs _ (((HX.out.drewN n).alloc _).alloc _) (by have := HXL.out; omega)).mono ?_
  rintro e w1 ⟨ue, rfl, OE1, hb⟩
  have hsz : ((w.drewN n).alloc (.cells #[] 26)).heap.size = w.heap.size + 1 := by simp
  have HB1 : Hid (Below w.heap.size w w1) := (by repeat (first | exact Below.refl _ _ | assumption | refine below_drewN ?_ _ | refine below_alloc (Nat.le_refl _) ?_ _ | (refine Below.setCell ?_ (by first | exact Nat.le_refl _ | (simp; done) | (simp; omega) | omega) _) | (refine below_step (Nat.le_refl _) ?_ (by assumption))))
  have HO1 : Hid (OC w.heap.size w1 (.slice (some ⟨w.heap.size + 1, 0, none⟩) 0 0) []) := by
    refine OC_below ?_ hb
    show World.ownsRow _ _ _ _ _ _ _
    have h := World.ownsRow_lit (base := w.heap.size) (e := 47) (size := 3) ((w.drewN n).alloc (.cells #[] 26)) #[] 0 (by rw [hsz]; omega) (by unfold maxLen; omega) rfl
    rw [hsz] at h
    exact h
  have HP1 : Hid (OO w.heap.size w1 (.slice (some ⟨w.heap.size, 0, none⟩) 0 0) []) := by
    refine OO_below ?_ hb
    have h1 : OO w.heap.size ((w.drewN n).alloc (.cells #[] 26)) (.slice (some ⟨w.heap.size, 0, none⟩) 0 0) [] := OO_of (OF_empty _ _ _ rfl (Nat.le_refl _) _ rfl)
    exact OO_below h1 (below_alloc (Nat.le_refl _) (Below.refl _ _) _)
  have HE1 : Hid (OF w.heap.size w1 ue (ends xs) ∧ (∀ k, ue.ownBlock = some k → w.heap.size < k)) := by
    refine ⟨⟨OE1.1, ?_⟩, fun k hk => by have := (OE1.lt k hk).1; simp at this; omega⟩
    rcases OE1.2 with h | ⟨g, cap, cur, q1, q2, q3⟩
    · exact .inl h
    · exact .inr ⟨g, cap, cur, q1, by simp at q2; omega, q3⟩
  obtain ⟨p1, cap1, rfl, hm1, hc1⟩ := RF_of_own OE1 (by omega)
  clear OE1 hb hc1 hsz
  go_wp2_with fail
  generalize hB0 : w.heap.size = B at *
  have HB0 := Lib.hid hB0
  clear HX hB0
  generalize hes : ends xs = es at *
  have HES := Lib.hid hes
  clear hes
  have HS0 : Hid (CW B w (.slice p1 es.length cap1) es w1 (.slice (some ⟨B, 0, none⟩) 0 0) (.slice (some ⟨B + 1, 0, none⟩) 0 0) ([], [])) := by
    refine ⟨HE1.out.1, fun k hk hk2 => ?_, HP1.out, HO1.out, HB1.out, by rw [← HB0.out]; exact HB1.out.size⟩
    have := HE1.out.2 k hk
    simp only [Value.ownBlock, Option.some.injEq] at hk2
    omega
  clear HE1 HO1 HB1 HP1
  go_loopw [4, 5, 20] (fun l o i wr => ∃ k : Nat, k ≤ es.length ∧ i = .int .i64 k ∧ CW B w (.slice p1 es.length cap1) es wr l o (cycTo es k)) (fun _ _ i _ => es.length - (intOf i).toNat)
  case atStart => exact ⟨0, Nat.zero_le _, rfl, HS0.out⟩
  case round =>
    obtain ⟨k, hk, rfl, hS⟩ := hrel
    by_cases hlt : k < es.length
    · obtain ⟨b1, rfl⟩ : ∃ b1, p1 = some ⟨b1, 0, none⟩ := by
        rcases hS.he.2 with ⟨h, h2⟩ | ⟨g, cap, cur, h, -⟩
        · omega
        · simp only [Value.slice.injEq] at h; exact ⟨g, h.1⟩
      have g1 : wr.cell? ⟨b1, k, none⟩ = some (.float .f32 es[k]) := by rw [OF_cell hS.he k hlt]; simp [hlt]
      have HI0 := Lib.hid (HINV.out k hk)
      have HSK := Lib.hid (HSUC.out k hlt)
      have hI := HI0.out.total
      have HXF : Hid (fin .f32 es[k] = true) := by
        have h := HEF.out
        unfold finAll at h
        exact List.all_eq_true.1 h _ (List.getElem_mem _)
      generalize es[k] = x at g1 HSK HXF
      generalize cycTo es k = s at hS HI0 HSK hI
      have HS := Lib.hid hS
      clear hS
      go_wp2_with (at_builtin; refine wpList_appO B s.1 x rfl rfl rfl rfl ?_ ?_ (by omega) ?_ ?_)
      case _ => exact (HS.out.below (by repeat (first | exact Below.refl _ _ | assumption | refine below_drewN ?_ _ | refine below_alloc (Nat.le_refl _) ?_ _ | (refine Below.setCell ?_ (by first | exact Nat.le_refl _ | (simp; done) | (simp; omega) | omega) _) | (refine below_step (Nat.le_refl _) ?_ (by assumption))))).hl
      case _ => exact cell_top1 _ _ (by simp) _ _
      case _ => have := HS.out.hs; simp; omega
      intro u w2 h1 h2 h2a
      have HP : Hid (CW B w (.slice (some ⟨b1, 0, none⟩) es.length cap1) es w2 u u5 (push s x)) := CW.pushed (HS.out.below (by repeat (first | exact Below.refl _ _ | assumption | refine below_drewN ?_ _ | refine below_alloc (Nat.le_refl _) ?_ _ | (refine Below.setCell ?_ (by first | exact Nat.le_refl _ | (simp; done) | (simp; omega) | omega) _) | (refine below_step (Nat.le_refl _) ?_ (by assumption))))) h1 h2 (by simpa using h2a)
      have HPI := Lib.hid (push_inv HI0.out HXF.out)
      clear h1 h2 h2a g1
      go_wp2_with fail
      generalize push s x = s0 at *
      clear hI HI0 HS
      go_loopw [4, 5] (fun l o wr => ∃ j : Nat, (iter j s0).1.length + j ≤ s0.1.length ∧ CW B w (.slice (some ⟨b1, 0, none⟩) es.length cap1) es wr l o (iter j s0)) (fun l _ _ => lenV l)
      case atStart => exact ⟨0, by show s0.1.length + 0 ≤ _; omega, HP.out⟩
      case round =>
        obtain ⟨j, hj, hC⟩ := hrel
        have HCI := Lib.hid (iter_inv HPI.out j)
        have HNO : Hid (due (iter j s0) = false → cycTo es (k + 1) = iter j s0) := fun h => HSK.out.trans (red_is h hj)
        have HYES : Hid (due (iter j s0) = true → iter (j + 1) s0 = (left (iter j s0).1, (iter j s0).2 ++ [found (iter j s0).1]) ∧ (iter (j + 1) s0).1.length + (j + 1) ≤ s0.1.length) := fun h => ⟨iter_due h, iter_len h hj⟩
        have HC := Lib.hid hC
        clear hj hC
        generalize iter j s0 = s at HC HCI HNO HYES
        obtain ⟨L, O⟩ := s
        have hI : L.length + O.length ≤ k + 1 := HCI.out.total
        have HLF : Hid (∀ x ∈ L, fin .f32 x = true) := HCI.out.finite
        by_cases hn : 3 ≤ L.length
        · obtain ⟨g, off, cap, rfl, hox⟩ : ∃ g off cap, u4 = .slice (some ⟨g, off, none⟩) L.length cap ∧ OX B wr g off cap L := by
            rcases HC.out.hl with ⟨-, h⟩ | h
            · have h' : L = [] := h
              rw [h'] at hn; simp at hn
            · exact h
          obtain ⟨i3, hi3⟩ : ∃ i3, L.length = i3 + 3 := ⟨L.length - 3, by omega⟩
          obtain ⟨i2, hi2⟩ : ∃ i2, i2 = i3 + 1 := ⟨_, rfl⟩
          obtain ⟨i1, hi1⟩ : ∃ i1, i1 = i3 + 2 := ⟨_, rfl⟩
          have gl1 : wr.cell? ⟨g, off + i1, none⟩ = some (.float .f32 (at3 L 1)) := by rw [OX_cell hox (by omega)]; unfold at3; rw [show i1 = L.length - 1 by omega]
          have gl2 : wr.cell? ⟨g, off + i2, none⟩ = some (.float .f32 (at3 L 2)) := by rw [OX_cell hox (by omega)]; unfold at3; rw [show i2 = L.length - 2 by omega]
          have gl3 : wr.cell? ⟨g, off + i3, none⟩ = some (.float .f32 (at3 L 3)) := by rw [OX_cell hox (by omega)]; unfold at3; rw [show i3 = L.length - 3 by omega]
          have HOX := Lib.hid hox
          have HF1 := Lib.hid (at3_fin HLF.out (i := 1) (by omega) (by omega))
          have HF2 := Lib.hid (at3_fin HLF.out (i := 2) (by omega) (by omega))
          have HF3 := Lib.hid (at3_fin HLF.out (i := 3) (by omega) (by omega))
          clear hox
          generalize hnn : L.length = n at *
          have HNN := Lib.hid hnn
          have q1 : IntKind.i64.wrap ((n : Int) - 1) = (i1 : Int) := by rw [IntKind.wrap_i64]; omega
          have q2 : IntKind.i64.wrap ((n : Int) - 2) = (i2 : Int) := by rw [IntKind.wrap_i64]; omega
          have q3 : IntKind.i64.wrap ((n : Int) - 3) = (i3 : Int) := by rw [IntKind.wrap_i64]; omega
          have q4 : (0 : Int) ≤ (i1 : Int) := by omega
          have q5 : (0 : Int) ≤ (i2 : Int) := by omega
          have q6 : (0 : Int) ≤ (i3 : Int) := by omega
          have q7 : (i1 : Int) < (n : Int) := by omega
          have q8 : (i2 : Int) < (n : Int) := by omega
          have q9 : (i3 : Int) < (n : Int) := by omega
          have HI := Lib.hid (And.intro hi3 (And.intro hi2 (And.intro hi1 hn)))
          clear hnn hi3 hi2 hi1
          go_wp2_with fail
          have hgl : g < wr.heap.size := block_lt_of_cell gl1
          go_cut [9, 10] (fun x y wx => ∃ g9 g10, x = .pointer (some ⟨g9, 0, none⟩) ∧ y = .pointer (some ⟨g10, 0, none⟩) ∧ CycAt wx g9 0 (pair (at3 L 2) (at3 L 1) true) ∧ CycAt wx g10 0 (pair (at3 L 3) (at3 L 2) (decide ((3 : Int) < (n : Int)))) ∧ Below wr.heap.size wr wx)
          case first =>
            go_region_held3 (fun w' => w'.cell? ⟨g, off + i1, none⟩ = some (.float .f32 (at3 L 1)) ∧ w'.cell? ⟨g, off + i2, none⟩ = some (.float .f32 (at3 L 2)) ∧ w'.cell? ⟨g, off + i3, none⟩ = some (.float .f32 (at3 L 3)))
              ((show _ ∧ _; refine ⟨?_, ?_, ?_⟩ <;> (repeat (first | assumption | exact gl1 | exact gl2 | exact gl3 | refine cell_alloc_keep' ?_ _ | refine cell_set_keep ?_ (by simp; omega)))))
              (((go_at_call 63; refine (i_cycleOf _ _ _ _).mono ?_; rintro e w3 ⟨rfl, rfl⟩)))
            all_goals
              go_wp2_with fail
              go_meet
              refine ⟨_, _, rfl, rfl, ?_, ?_, ?_⟩
              · repeat (first | (refine cyc_top _ _ ?_ _ _ _ _; (first | rfl | (simp; done))) | refine CycAt_alloc ?_ _ | refine CycAt_drew ?_)
              · repeat (first | (refine cyc_top _ _ ?_ _ _ _ _; (first | rfl | (simp; done))) | refine CycAt_alloc ?_ _ | refine CycAt_drew ?_)
              · repeat (first | exact Below.refl _ _ | refine Below_drew ?_ | refine below_alloc (Nat.le_refl _) ?_ _)
          case rest =>
            obtain ⟨g9, g10, rfl, rfl, hc9, hc10, hbc⟩ := hcut
            have HNF1 := Lib.hid (nonneg_notNan (pair_nonneg HF2.out HF1.out true))
            have HNF2 := Lib.hid (nonneg_notNan (pair_nonneg HF3.out HF2.out (decide ((3 : Int) < (n : Int)))))
            have HDU : Hid (due (L, O) = !flt .f32 (rng (pair (at3 L 2) (at3 L 1) true)) (rng (pair (at3 L 3) (at3 L 2) (decide ((3 : Int) < (n : Int)))))) := by
              show _ = _
              have hL := HNN.out
              have e : decide ((3 : Int) < (n : Int)) = decide (3 < n) := by rw [decide_eq_decide]; omega
              unfold due
              have : decide (3 ≤ L.length) = true := by simp; omega
              show (decide (3 ≤ L.length) && !flt .f32 (rng (pair (at3 L 2) (at3 L 1) true)) (rng (pair (at3 L 3) (at3 L 2) (decide (3 < L.length))))) = _
              rw [this, Bool.true_and, hL, e]
            have HFD : Hid (pair (at3 L 3) (at3 L 2) (decide ((3 : Int) < (n : Int))) = found L) := by
              show _ = _
              unfold found
              rw [HNN.out]
              have e : decide ((3 : Int) < (n : Int)) = decide (3 < n) := by rw [decide_eq_decide]; omega
              rw [e]
            have HS1 := Lib.hid (HC.out.below hbc)
            have gl1 := cell_below_keep' gl1 hbc
            have HC10 := Lib.hid hc10
            generalize pair (at3 L 2) (at3 L 1) true = C1 at *
            generalize pair (at3 L 3) (at3 L 2) (decide ((3 : Int) < (n : Int))) = C2 at *
            obtain ⟨lo1, hi1, wh1⟩ := C1
            obtain ⟨lo2, hi2, wh2⟩ := C2
            obtain ⟨a0, a1, a2⟩ := hc9
            obtain ⟨b0, b1', b2⟩ := hc10
            simp only at a0 a1 a2 b0 b1' b2
            have HR1 : Hid (∀ W, Calls Try.prog 60 #[.agg #[.float .f32 lo1, .float .f32 hi1, .bool wh1]] W fun e w' => e = .returned (.float .f32 (rng ⟨lo1, hi1, wh1⟩)) ∧ Below W.heap.size W w') := fun W => i_rangeOf' ⟨lo1, hi1, wh1⟩ HNF1.out W
            have HR2 : Hid (∀ W, Calls Try.prog 60 #[.agg #[.float .f32 lo2, .float .f32 hi2, .bool wh2]] W fun e w' => e = .returned (.float .f32 (rng ⟨lo2, hi2, wh2⟩)) ∧ Below W.heap.size W w') := fun W => i_rangeOf' ⟨lo2, hi2, wh2⟩ HNF2.out W
            clear hbc
            cases hd : flt .f32 (rng ⟨lo1, hi1, wh1⟩) (rng ⟨lo2, hi2, wh2⟩)
            · have hd' : (FloatKind.f32.format.order (rng ⟨lo1, hi1, wh1⟩) (rng ⟨lo2, hi2, wh2⟩) == some .lt) = false := hd
              rw [hd] at HDU
              clear hd
              generalize rng ⟨lo1, hi1, wh1⟩ = z1 at *
              generalize rng ⟨lo2, hi2, wh2⟩ = z2 at *
              go_wp2_with fail
              go_region_held3 (fun w' => w'.cell? ⟨g9, 0, none⟩ = some (.float .f32 lo1) ∧ w'.cell? ⟨g9, 1, none⟩ = some (.float .f32 hi1) ∧ w'.cell? ⟨g9, 2, none⟩ = some (.bool wh1) ∧ w'.cell? ⟨g10, 0, none⟩ = some (.float .f32 lo2) ∧ w'.cell? ⟨g10, 1, none⟩ = some (.float .f32 hi2) ∧ w'.cell? ⟨g10, 2, none⟩ = some (.bool wh2))
                ((show _ ∧ _; go_split_ands; refine ⟨?_, ?_, ?_, ?_, ?_, ?_⟩ <;> (repeat (first | assumption | refine cell_below_keep' ?_ (by assumption)))))
                (first
                  | ((go_at_call 60; refine (HR1.out _).mono ?_; rintro e w3 ⟨rfl, hb3⟩))
                  | ((go_at_call 60; refine (HR2.out _).mono ?_; rintro e w4 ⟨rfl, hb4⟩)))
              have hb34 : Below wc.heap.size wc w4 := below_step (Nat.le_refl _) (show Below wc.heap.size wc w3 from below_step (Nat.le_refl _) (Below_drew (Below.refl _ _)) hb3) hb4
              have HS2 := Lib.hid (HS1.out.below hb34)
              have gl1 := cell_below_keep' gl1 hb34
              have b0 := cell_below_keep' b0 hb34
              have b1' : w4.cell? ⟨g10, 1, none⟩ = some (.float .f32 hi2) := cell_below_keep' b1' hb34
              have b2 : w4.cell? ⟨g10, 2, none⟩ = some (.bool wh2) := cell_below_keep' b2 hb34
              have HNX := Lib.hid (HYES.out HDU.out)
              clear hb3 hb4 hb34 HS1 a0 a1 a2 hd' HC10 HC HNO HYES HR1 HR2
              go_wp2_with (at_builtin; refine wpList_appC B O (found L) rfl rfl rfl rfl ?_ ?_ (by omega) ?_ ?_)
              case _ => exact (HS2.out.below (by repeat (first | exact Below.refl _ _ | assumption | refine below_drewN ?_ _ | refine below_alloc (Nat.le_refl _) ?_ _ | (refine Below.setCell ?_ (by first | exact Nat.le_refl _ | (simp; done) | (simp; omega) | omega) _) | (refine below_step (Nat.le_refl _) ?_ (by assumption))))).ho
              case _ => rw [← HFD.out]; exact cyc_top _ _ (by simp) _ _ _ _
              case _ => have := HS2.out.hs; simp; omega
              intro u6 w5 H1 H2
              have HS3 : Hid (CW B w (.slice (some ⟨b1, 0, none⟩) es.length cap1) es w5 (.slice (some ⟨g, off, none⟩) n cap) u6 (L, O ++ [found L])) := CW.outed (HS2.out.below (by repeat (first | exact Below.refl _ _ | assumption | refine below_drewN ?_ _ | refine below_alloc (Nat.le_refl _) ?_ _ | (refine Below.setCell ?_ (by first | exact Nat.le_refl _ | (simp; done) | (simp; omega) | omega) _) | (refine below_step (Nat.le_refl _) ?_ (by assumption))))) H1 H2
              have gl1 : w5.cell? ⟨g, off + i1, none⟩ = some (.float .f32 (at3 L 1)) := cell_far_keep (cell_alloc_keep' gl1 _) H2 HS2.out.apart
              clear H1 H2 b0 b1' b2 HS2
              have HOX2 := Lib.hid HS3.out.ox.2
              have qc : (n : Int) ≤ (cap : Int) := by
                obtain ⟨cur, -, -, q, -⟩ := HOX2.out
                have := HNN.out
                have : L.length ≤ cap := q
                omega
              have HI3 : Hid (n = i3 + 3) := HI.out.1
              by_cases h3 : n = 3
              · have qe : ((n : Int) == 3) = true := by simp; omega
                have q10 : (1 : Int) ≤ (n : Int) := by omega
                have HLT : Hid (left L = L.tail) := by show _ = _; unfold left; rw [if_pos (by rw [HNN.out, h3])]
                have HD3 : Hid (1 ≤ L.length) := by show _ ≤ _; have := HNN.out; omega
                have HD4 : Hid (2 = L.tail.length) := by show _ = _; have := HNN.out; simp; omega
                have HS4 : Hid (CW B w (.slice (some ⟨b1, 0, none⟩) es.length cap1) es w5 (.slice (some ⟨g, off + 1, none⟩) 2 (cap - 1)) u6 (left L, O ++ [found L])) := by
                  show CW _ _ _ _ _ _ _ _
                  rw [HLT.out]
                  exact CW.relist HS3.out (.inr ⟨g, off + 1, cap - 1, by rw [← HD4.out], OX_drop HOX2.out HD3.out⟩) (fun k hk hk2 => HS3.out.hd k hk hk2)
                go_wp2_with fail
                go_roundw
                case rel => exact ⟨j + 1, HNX.out.2, by rw [HNX.out.1]; exact HS4.out⟩
                case measure => show 2 < n; omega
              · have qe : ((n : Int) == 3) = false := by simp; omega
                have q10 : (i3 : Int) ≤ (cap : Int) := by have := HI3.out; omega
                have HLT : Hid (left L = L.take i3 ++ [at3 L 1]) := by show _ = _; unfold left; rw [if_neg (by rw [HNN.out]; exact h3), HNN.out, show n - 3 = i3 by have := HI3.out; omega]
                have HD4 : Hid (i3 = (L.take i3).length) := by show _ = _; have := HNN.out; have := HI3.out; simp; omega
                have HD2 : Hid ((L.take i3).length ≤ 1048576) := by show _ ≤ _; have := HNN.out; have := HI3.out; have := HD4.out; omega
                go_wp2_with fail
                have HOT : Hid (OO B w5 (.slice (some ⟨g, off, none⟩) i3 cap) (L.take i3)) := by
                  right
                  exact ⟨g, off, cap, by rw [← HD4.out], OX_take HOX2.out i3⟩
                have HBW := Lib.hid HS3.out.hs
                go_region_law ((refine step_appO B (L.take i3) (at3 L 1) _ _ (.slice (some ⟨g, off, none⟩) i3 cap) w5.heap.size (by rfl) (by rfl) (by rfl) (by rfl) (OO_below HOT.out (Below_drew (below_alloc (Nat.le_refl _) (Below.refl _ _) _))) (show (w5.alloc (.cells #[Value.float .f32 (at3 L 1)] 26)).cell? ⟨w5.heap.size, 0, none⟩ = some (.float .f32 (at3 L 1)) from cell_top1 _ _ rfl _ _) HD2.out (by have := HBW.out; simp; omega) ?_; intro u7 w7 H1 H2 H3))
                go_simp
                have HS4 : Hid (CW B w (.slice (some ⟨b1, 0, none⟩) es.length cap1) es w7 u7 u6 (left L, O ++ [found L])) := by
                  show CW _ _ _ _ _ _ _ _
                  rw [HLT.out]
                  have hR : CW B w (.slice (some ⟨b1, 0, none⟩) es.length cap1) es w5 (.slice (some ⟨g, off, none⟩) i3 cap) u6 (L.take i3, O ++ [found L]) := CW.relist HS3.out HOT.out (fun k hk hk2 => HS3.out.hd k hk hk2)
                  exact CW.pushed (hR.below (Below_drew (below_alloc (Nat.le_refl _) (Below.refl _ _) _))) H1 H2 H3
                go_wp2_with fail
                go_roundw
                case rel => exact ⟨j + 1, HNX.out.2, by rw [HNX.out.1]; exact HS4.out⟩
                case measure =>
                  rcases HS4.out.hl with ⟨e, -⟩ | ⟨g2, off2, c2, e, -⟩
                  · rw [e]; show 0 < n; omega
                  · rw [e]
                    show (left L).length < n
                    have := left_length (l := L) (by have := HNN.out; omega)
                    have := HNN.out
                    omega
            · have hd' : (FloatKind.f32.format.order (rng ⟨lo1, hi1, wh1⟩) (rng ⟨lo2, hi2, wh2⟩) == some .lt) = true := hd
              rw [hd] at HDU
              clear hd
              generalize rng ⟨lo1, hi1, wh1⟩ = z1 at *
              generalize rng ⟨lo2, hi2, wh2⟩ = z2 at *
              go_wp2_with fail
              go_region_held3 (fun w' => w'.cell? ⟨g9, 0, none⟩ = some (.float .f32 lo1) ∧ w'.cell? ⟨g9, 1, none⟩ = some (.float .f32 hi1) ∧ w'.cell? ⟨g9, 2, none⟩ = some (.bool wh1) ∧ w'.cell? ⟨g10, 0, none⟩ = some (.float .f32 lo2) ∧ w'.cell? ⟨g10, 1, none⟩ = some (.float .f32 hi2) ∧ w'.cell? ⟨g10, 2, none⟩ = some (.bool wh2))
                ((show _ ∧ _; go_split_ands; refine ⟨?_, ?_, ?_, ?_, ?_, ?_⟩ <;> (repeat (first | assumption | refine cell_below_keep' ?_ (by assumption)))))
                (first
                  | ((go_at_call 60; refine (HR1.out _).mono ?_; rintro e w3 ⟨rfl, hb3⟩))
                  | ((go_at_call 60; refine (HR2.out _).mono ?_; rintro e w4 ⟨rfl, hb4⟩)))
              have hb34 : Below wc.heap.size wc w4 := below_step (Nat.le_refl _) (show Below wc.heap.size wc w3 from below_step (Nat.le_refl _) (Below_drew (Below.refl _ _)) hb3) hb4
              have HS2 := Lib.hid (HS1.out.below hb34)
              have HNX := Lib.hid (HNO.out HDU.out)
              clear hb3 hb4 hb34 HS1
              go_wp2_with fail
              refine ⟨⟨k + 1, by omega, by go_num, ?_⟩, by simp [intOf]; omega⟩
              rw [HNX.out]
              exact HS2.out
        · have HDN : Hid (due (L, O) = false) := by show _ = _; unfold due; simp; omega
          have HNX := Lib.hid (HNO.out HDN.out)
          rcases HC.out.hl with ⟨e, e2⟩ | ⟨g, off, cap, e, hox⟩
          · subst e
            go_wp2_with fail
            refine ⟨⟨k + 1, by omega, by go_num, ?_⟩, by simp [intOf]; omega⟩
            rw [HNX.out]
            exact HC.out.below (by repeat (first | exact Below.refl _ _ | assumption | refine below_drewN ?_ _ | refine below_alloc (Nat.le_refl _) ?_ _ | (refine Below.setCell ?_ (by first | exact Nat.le_refl _ | (simp; done) | (simp; omega) | omega) _) | (refine below_step (Nat.le_refl _) ?_ (by assumption))))
          · have e' : u4 = .slice (some ⟨g, off, none⟩) L.length cap := e
            subst e'
            clear hox e
            go_wp2_with fail
            refine ⟨⟨k + 1, by omega, by go_num, ?_⟩, by simp [intOf]; omega⟩
            rw [HNX.out]
            exact HC.out.below (by repeat (first | exact Below.refl _ _ | assumption | refine below_drewN ?_ _ | refine below_alloc (Nat.le_refl _) ?_ _ | (refine Below.setCell ?_ (by first | exact Nat.le_refl _ | (simp; done) | (simp; omega) | omega) _) | (refine below_step (Nat.le_refl _) ?_ (by assumption))))
    · obtain rfl : k = es.length := by omega
      have HIN := Lib.hid (HINV.out es.length (Nat.le_refl _))
      have HS := Lib.hid hS
      clear hS
      obtain ⟨s, hs⟩ : ∃ s, cycTo es es.length = s := ⟨_, rfl⟩
      obtain ⟨L, O⟩ := s
      rw [hs] at HS HIN
      have HSE := Lib.hid hs
      clear hs
      have HIL : Hid (L.length + O.length ≤ es.length) := HIN.out.total
      go_wp2_with fail
      go_loopw [5, 11] (fun o iv wr' => ∃ i : Nat, 1 ≤ i ∧ i ≤ L.length - 1 + 1 ∧ iv = .int .i64 (i : Int) ∧ CW B w (.slice p1 es.length cap1) es wr' u4 o (L, O ++ tails L (i - 1))) (fun _ i _ => L.length - (intOf i).toNat)
      case atStart => exact ⟨1, Nat.le_refl _, by omega, rfl, by rw [tails_zero, List.append_nil]; exact HS.out⟩
      case round =>
        obtain ⟨i, hi1, hi2, rfl, hC⟩ := hrel
        have HC := Lib.hid hC
        clear hC
        by_cases hlt : i < L.length
        · obtain ⟨g, off, cap, rfl, hox⟩ : ∃ g off cap, u4 = .slice (some ⟨g, off, none⟩) L.length cap ∧ OX B wr g off cap L := by
            rcases HC.out.hl with ⟨-, h⟩ | h
            · have h' : L = [] := h
              rw [h'] at hlt; simp at hlt
            · exact h
          obtain ⟨k, hk0⟩ : ∃ k, i = k + 1 := ⟨i - 1, by omega⟩
          have HK := Lib.hid hk0
          have hll : L.length ≤ 64 := by have := HIL.out; omega
          have gl1 : wr.cell? ⟨g, off + k, none⟩ = some (.float .f32 (L.getD k 0)) := OX_cell hox (by omega)
          have gl2 : wr.cell? ⟨g, off + i, none⟩ = some (.float .f32 (L.getD i 0)) := OX_cell hox hlt
          have q1 : IntKind.i64.wrap ((i : Int) - 1) = (k : Int) := by rw [IntKind.wrap_i64]; omega
          have q2 : (0 : Int) ≤ (i : Int) := by omega
          have q3 : (0 : Int) ≤ (k : Int) := by omega
          have q4 : (i : Int) < (L.length : Int) := by omega
          have q5 : (k : Int) < (L.length : Int) := by omega
          have HTL : Hid (tails L (i - 1) ++ [pair (L.getD k 0) (L.getD i 0) false] = tails L (i + 1 - 1)) := by
            show _ = _
            rw [hk0, show k + 1 + 1 - 1 = k + 1 by omega, tails_succ, show k + 1 - 1 = k by omega]
          have HOLN : Hid ((O ++ tails L (i - 1)).length ≤ 1048576) := by show _ ≤ _; rw [List.length_append, tails_length]; have := HIL.out; omega
          have HNE := Lib.hid HC.out.apart
          have HTB : Hid (B ≤ wr.heap.size) := HC.out.hs
          clear hox hk0
          generalize L.getD k 0 = a at *
          generalize L.getD i 0 = b at *
          go_wp2_with fail
          go_region_held3 (fun w' => w'.cell? ⟨g, off + k, none⟩ = some (.float .f32 a) ∧ w'.cell? ⟨g, off + i, none⟩ = some (.float .f32 b))
            (first
              | (show _ ∧ _; exact ⟨gl1, gl2⟩)
              | (show _ ∧ _; go_split_ands; refine ⟨?_, ?_⟩ <;> ((repeat (first | assumption | exact gl1 | exact gl2 | refine cell_alloc_keep' ?_ _)); done))
              | (show _ ∧ _; go_split_ands; refine ⟨cell_far_keep (by assumption) (by assumption) HNE.out, cell_far_keep (by assumption) (by assumption) HNE.out⟩))
            (first
              | ((go_at_call 63; refine (i_cycleOf _ _ _ _).mono ?_; rintro e w3 ⟨rfl, rfl⟩))
              | ((refine step_appC B (O ++ tails L (i - 1)) (pair a b false) _ _ u5 (wr.heap.size + 1) (by rfl) (by rfl) (by rfl) (by rfl) (OC_below HC.out.ho (below_alloc (Nat.le_refl _) (below_alloc (Nat.le_refl _) (Below_drew (Below.refl _ _)) _) _)) (cyc_top _ _ (by simp) _ _ _ _) HOLN.out (by have := HTB.out; simp; omega) ?_; intro u7 w7 H1 H2)))
          have HS2 : Hid (CW B w (.slice p1 es.length cap1) es w7 (.slice (some ⟨g, off, none⟩) L.length cap) u7 (L, O ++ tails L (i + 1 - 1))) := by
            have h := CW.outed (HC.out.below (below_alloc (Nat.le_refl _) (below_alloc (Nat.le_refl _) (Below_drew (Below.refl _ _)) _) _)) H1 H2
            rw [List.append_assoc, HTL.out] at h
            exact h
          clear H1 H2 gl1 gl2
          go_wp2_with fail
          go_roundw
          case rel => exact ⟨i + 1, by omega, by omega, by go_num, HS2.out⟩
          case measure => simp [intOf]; omega
        · have HTL : Hid (O ++ tails L (i - 1) = cycles xs) := by
            show _ = _
            rw [HCY.out]
            have h1 := HSE.out
            rw [h1]
            congr 2
            show i - 1 = L.length - 1
            omega
          have HO : Hid (OC B wr u5 (cycles xs)) := by rw [← HTL.out]; exact HC.out.ho
          have hln : ∃ p c, u4 = .slice p L.length c := by
            rcases HC.out.hl with ⟨h, h2⟩ | ⟨g, off, c, h, -⟩
            · have h2' : L = [] := h2
              subst h2'
              exact ⟨none, 0, h⟩
            · exact ⟨_, _, h⟩
          obtain ⟨p5, c5, rfl⟩ := hln
          go_wp2_with fail
          go_ret2
          exact CycOut.ok HL.out (by rw [HB0.out]; exact HO.out) (by rw [HB0.out]; exact HC.out.hb)
end Go.Proofs.Ytmpmnhnobgidoaa
