/- Walks: lists of cycles. -/
import Derived.Test.YtmpajgpnbiaoiaaD
namespace Go.Proofs.Ytmpajgpnbiaoiaa
set_option linter.unusedSimpArgs false
set_option linter.unusedVariables false
open Go.RowKit Go.Fl

/-- A cycle: the bits of both numbers, and whether it is whole. -/
structure Cyc where
  lo : Nat
  hi : Nat
  wh : Bool
abbrev cyc (c : Cyc) : Value := .agg #[.float .f32 c.lo, .float .f32 c.hi, .bool c.wh]
def cycCells : List Cyc → List Value
  | [] => []
  | c :: cs => .float .f32 c.lo :: .float .f32 c.hi :: .bool c.wh :: cycCells cs
theorem cycCells_length (cs : List Cyc) : (cycCells cs).length = cs.length * 3 := by
  induction cs with
  | nil => rfl
  | cons c cs ih => simp [cycCells, ih]; omega
theorem cycCells_at (cs : List Cyc) (k : Nat) (h : k < cs.length) :
    (cycCells cs)[k * 3]? = some (.float .f32 cs[k].lo) ∧ (cycCells cs)[k * 3 + 1]? = some (.float .f32 cs[k].hi) ∧ (cycCells cs)[k * 3 + 2]? = some (.bool cs[k].wh) := by
  induction cs generalizing k with
  | nil => simp at h
  | cons c cs ih =>
    cases k with
    | zero => simp [cycCells]
    | succ k =>
      obtain ⟨h1, h2, h3⟩ := ih k (by simpa using h)
      have e : (k + 1) * 3 = k * 3 + 3 := by omega
      rw [e]
      refine ⟨?_, ?_, ?_⟩
      · simpa [cycCells] using h1
      · simpa [cycCells] using h2
      · simpa [cycCells] using h3
def RC (w : World) (v : Value) (cs : List Cyc) : Prop := Sl w v cs.length (cycCells cs)
theorem RC_below {w w' : World} {v : Value} {cs : List Cyc} (h : RC w v cs) (hb : Below w.heap.size w w') : RC w' v cs := Sl.below h (.inr trivial) hb (Nat.le_refl _)
/-- The cells of one cycle. -/
def CycAt (w : World) (b o : Nat) (c : Cyc) : Prop := w.cell? ⟨b, o, none⟩ = some (.float .f32 c.lo) ∧ w.cell? ⟨b, o + 1, none⟩ = some (.float .f32 c.hi) ∧ w.cell? ⟨b, o + 2, none⟩ = some (.bool c.wh)
theorem CycAt_of {w : World} {b off : Nat} {cs : List Cyc} (h : ∀ j u, (cycCells cs)[j]? = some u → w.cell? ⟨b, off + j, none⟩ = some u) (k : Nat) (hk : k < cs.length) : CycAt w b (off + k * 3) cs[k] := by
  obtain ⟨h1, h2, h3⟩ := cycCells_at cs k hk
  exact ⟨h _ _ h1, by rw [Nat.add_assoc]; exact h _ _ h2, by rw [Nat.add_assoc]; exact h _ _ h3⟩

def CEq1 (c d : Cyc) : Prop := cn .f32 c.lo = cn .f32 d.lo ∧ cn .f32 c.hi = cn .f32 d.hi ∧ c.wh = d.wh
/-- Two lists of cycles that differ in the bits of not-a-numbers at most. -/
def CEq (cs ds : List Cyc) : Prop := cs.length = ds.length ∧ ∀ k (h1 : k < cs.length) (h2 : k < ds.length), CEq1 cs[k] ds[k]
theorem CEq.refl (cs : List Cyc) : CEq cs cs := ⟨rfl, fun _ _ _ => ⟨rfl, rfl, rfl⟩⟩
theorem any_at {α : Type} {p : α → Bool} {xs : List α} {k : Nat} (hk : k < xs.length) (h : p xs[k] = true) : xs.any p = true := by rw [List.any_eq_true]; exact ⟨_, List.getElem_mem hk, h⟩
theorem any_none {α : Type} {p : α → Bool} {xs : List α} (h : noneYet p xs xs.length) : xs.any p = false := by
  rw [List.any_eq_false]
  intro x hx
  obtain ⟨j, hj, rfl⟩ := List.getElem_of_mem hx
  rw [h j hj hj]; decide
theorem l_toCycle (c : Cyc) (w : World) : Calls Try.prog 61 #[cyc c] w fun e w' => e = .returned (cyc c) ∧ Below w.heap.size w w' := by
  obtain ⟨lo, hi, wh⟩ := c
  go_enter Try.func61, Try.ntmps61
  go_wp2
  exact bodyPost_ret (v := cyc ⟨lo, hi, wh⟩) (by simp [results, Try.results61, go_sem]) rfl ⟨rfl, (by repeat (first | exact Below.refl _ _ | assumption | refine below_drewN ?_ _ | refine below_alloc (Nat.le_refl _) ?_ _ | (refine Below.setCell ?_ (by first | exact Nat.le_refl _ | (simp; done) | (simp; omega) | omega) _) | (refine below_step (Nat.le_refl _) ?_ (by assumption))))⟩
set_option maxHeartbeats 400000 in
theorem l_eqCycle (c d : Cyc) (w : World) (h : CEq1 c d) : Calls Try.prog 55 #[cyc c, cyc d] w fun e w' => e = .returned (.bool true) ∧ Below w.heap.size w w' := by
  obtain ⟨lo, hi, wh⟩ := c
  obtain ⟨lo', hi', wh'⟩ := d
  obtain ⟨h1, h2, h3⟩ := h
  simp only at h1 h2 h3
  subst h3
  have H1 := Lib.hid h1
  have H2 := Lib.hid h2
  have H1' := hrfl (cn .f32 lo')
  have H2' := hrfl (cn .f32 hi')
  clear h1 h2
  go_enter Try.func55, Try.ntmps55
  go_wp2_with (first | (refine wpList_widen rfl rfl rfl rfl Try.underlying30 (by first | assumption | exact hrfl _) ?_; intro r n hr) | (go_at_call 12; refine (l_sameFloat _ _ (Eq.trans (Hid.out (by assumption)) (Eq.symm (Hid.out (by assumption)))) _).mono ?_; rintro e w' ⟨rfl, n, rfl⟩))
  go_ret
  exact ⟨rfl, (by repeat (first | exact Below.refl _ _ | assumption | refine below_drewN ?_ _ | refine below_alloc (Nat.le_refl _) ?_ _ | (refine Below.setCell ?_ (by first | exact Nat.le_refl _ | (simp; done) | (simp; omega) | omega) _) | (refine below_step (Nat.le_refl _) ?_ (by assumption))))⟩
theorem l_szCycleS (p : Option Addr) (n cap : Nat) (left : Int) (h0 : 0 ≤ left) (h1 : left ≤ 1048576) (hn : n ≤ 9223372036854775807) (w : World) :
    Calls Try.prog 33 #[.slice p n cap, .int .i64 left] w fun e w' => e = .returned (.int .i64 (if left - n < 0 then -1 else left - n)) ∧ ∃ n, w' = w.drewN n := by
  by_cases hl : left - n < 0
  all_goals
    go_enter Try.func33, Try.ntmps33
    go_wp2
    go_ret
    exact ⟨by simp [hl], 0, rfl⟩
theorem i_AreCycles_1 (c : Cyc) (w : World) : Calls Try.prog 77 #[cyc c] w fun e w' => e = .returned (.bool (!fin .f32 c.lo || !fin .f32 c.hi || flt .f32 c.hi c.lo)) ∧ Below w.heap.size w w' := by
  obtain ⟨lo, hi, wh⟩ := c
  go_enter Try.func77, Try.ntmps77
  go_wp2_with (go_at_call 72; refine (i_areFinite _ [lo, hi] _ (RF_top2 _ _ (by simp) _ _ _)).mono ?_; rintro e w' ⟨rfl, n, rfl⟩)
  all_goals
    go_tidy
    go_ret
    exact ⟨(by cases hb0 : fin .f32 lo <;> cases hb1 : fin .f32 hi <;> simp_all [finAll, flt]), (by repeat (first | exact Below.refl _ _ | assumption | refine below_drewN ?_ _ | refine below_alloc (Nat.le_refl _) ?_ _ | (refine Below.setCell ?_ (by first | exact Nat.le_refl _ | (simp; done) | (simp; omega) | omega) _) | (refine below_step (Nat.le_refl _) ?_ (by assumption))))⟩
set_option maxHeartbeats 1000000 in
theorem s_l07Are (v : Value) (cs : List Cyc) (w : World) (hx : RC w v cs) : Calls Try.prog 56 #[v] w fun e w' => e = .returned (.bool (!cs.any (fun c => !fin .f32 c.lo || !fin .f32 c.hi || flt .f32 c.hi c.lo) && decide (cs.length ≤ 64))) ∧ ∃ n, w' = w.drewN n := by
  obtain ⟨p1, cap1, rfl, hm1, hc1⟩ := hx
  go_enter Try.func56, Try.ntmps56
  go_wp2_with fail
  go_loopw [6] (fun i wr => ∃ k n : Nat, k ≤ cs.length ∧ i = .int .i64 k ∧ wr = w.drewN n ∧ noneYet (fun c => !fin .f32 c.lo || !fin .f32 c.hi || flt .f32 c.hi c.lo) cs k) (fun i _ => cs.length - (intOf i).toNat)
  case atStart => exact ⟨0, 0, Nat.zero_le _, rfl, rfl, noneYet_zero _ _⟩
  case round =>
    obtain ⟨k, n, hk, rfl, rfl, hn⟩ := hrel
    by_cases hlt : k < cs.length
    · obtain ⟨b, off, rfl, hcell⟩ := hc1.resolve_left (by omega)
      obtain ⟨h1, h2, h3⟩ := CycAt_of hcell k hlt
      clear hcell hc1
      obtain ⟨c, hc⟩ : ∃ c, c = cs[k] := ⟨_, rfl⟩
      rw [← hc] at h1 h2 h3
      have HC := Lib.hid hc
      clear hc
      obtain ⟨lo, hi, wh⟩ := c
      simp only at h1 h2 h3
      cases hp1 : fin .f32 lo
      all_goals
        have P1 := Lib.hid hp1
        clear hp1
      · go_wp2_with fail
        ((refine wp_region_rq_lit (fun _ args u => ∀ x, args = #[.float .f32 x] → u = .bool (fin .f32 x)) (by kernel_rfl) (by kernel_rfl) ?_); (iterate 5 (refine wpRq_det' (by kernel_rfl) (fun K hK => ?_); go_simp; refine hK _ ?_; clear hK K)); (refine wpRq_call1 (f := 68) (X := .float .f32 _) rfl ?_ rfl (run_enter Try.func68 (by kernel_rfl) rfl) (fun n => (s_l01Finite _ _).mono (fun e w' ⟨he, hn⟩ => ⟨_, he, fun x hx => by cases hx; rfl, hn⟩)) ?_; (focus kernel_rfl); intro v hv; replace hv := hv _ rfl; (first | rw [P1.out] at hv); subst hv); (iterate 2 (refine wpRq_det' (by kernel_rfl) (fun K hK => ?_); go_simp; refine hK _ ?_; clear hK K)); (iterate 7 (refine wpRq_skip (by kernel_rfl) ?_)); (iterate 2 (refine wpRq_det' (by kernel_rfl) (fun K hK => ?_); go_simp; refine hK _ ?_; clear hK K)); (iterate 11 (refine wpRq_skip (by kernel_rfl) ?_)); (refine wpRq_det' (by kernel_rfl) (fun K hK => ?_); go_simp; refine hK _ ?_; clear hK K); (refine wpRq_nil ?_); intro nq)
        go_wp2
        go_ret
        exact ⟨by rw [any_at hlt (by rw [← HC.out]; simp [P1.out])]; rfl, _, World.drewN_drewN _ _ _⟩
      cases hp2 : fin .f32 hi
      all_goals
        have P2 := Lib.hid hp2
        clear hp2
      · go_wp2_with fail
        ((refine wp_region_rq_lit (fun _ args u => ∀ x, args = #[.float .f32 x] → u = .bool (fin .f32 x)) (by kernel_rfl) (by kernel_rfl) ?_); (iterate 5 (refine wpRq_det' (by kernel_rfl) (fun K hK => ?_); go_simp; refine hK _ ?_; clear hK K)); (refine wpRq_call1 (f := 68) (X := .float .f32 _) rfl ?_ rfl (run_enter Try.func68 (by kernel_rfl) rfl) (fun n => (s_l01Finite _ _).mono (fun e w' ⟨he, hn⟩ => ⟨_, he, fun x hx => by cases hx; rfl, hn⟩)) ?_; (focus kernel_rfl); intro v hv; replace hv := hv _ rfl; (first | rw [P1.out] at hv | rw [P2.out] at hv); subst hv); (iterate 2 (refine wpRq_det' (by kernel_rfl) (fun K hK => ?_); go_simp; refine hK _ ?_; clear hK K)); (iterate 5 (refine wpRq_det' (by kernel_rfl) (fun K hK => ?_); go_simp; refine hK _ ?_; clear hK K)); (refine wpRq_call1 (f := 68) (X := .float .f32 _) rfl ?_ rfl (run_enter Try.func68 (by kernel_rfl) rfl) (fun n => (s_l01Finite _ _).mono (fun e w' ⟨he, hn⟩ => ⟨_, he, fun x hx => by cases hx; rfl, hn⟩)) ?_; (focus kernel_rfl); intro v hv; replace hv := hv _ rfl; (first | rw [P1.out] at hv | rw [P2.out] at hv); subst hv); (refine wpRq_det' (by kernel_rfl) (fun K hK => ?_); go_simp; refine hK _ ?_; clear hK K); (iterate 2 (refine wpRq_det' (by kernel_rfl) (fun K hK => ?_); go_simp; refine hK _ ?_; clear hK K)); (iterate 11 (refine wpRq_skip (by kernel_rfl) ?_)); (refine wpRq_det' (by kernel_rfl) (fun K hK => ?_); go_simp; refine hK _ ?_; clear hK K); (refine wpRq_nil ?_); intro nq)
        go_wp2
        go_ret
        exact ⟨by rw [any_at hlt (by rw [← HC.out]; simp [P2.out])]; rfl, _, World.drewN_drewN _ _ _⟩
      cases hp3 : (FloatKind.f32.format.order hi lo == some .lt)
      all_goals
        go_wp2_with fail
        ((refine wp_region_rq_lit (fun _ args u => ∀ x, args = #[.float .f32 x] → u = .bool (fin .f32 x)) (by kernel_rfl) (by kernel_rfl) ?_); (iterate 5 (refine wpRq_det' (by kernel_rfl) (fun K hK => ?_); go_simp; refine hK _ ?_; clear hK K)); (refine wpRq_call1 (f := 68) (X := .float .f32 _) rfl ?_ rfl (run_enter Try.func68 (by kernel_rfl) rfl) (fun n => (s_l01Finite _ _).mono (fun e w' ⟨he, hn⟩ => ⟨_, he, fun x hx => by cases hx; rfl, hn⟩)) ?_; (focus kernel_rfl); intro v hv; replace hv := hv _ rfl; (first | rw [P1.out] at hv | rw [P2.out] at hv); subst hv); (iterate 2 (refine wpRq_det' (by kernel_rfl) (fun K hK => ?_); go_simp; refine hK _ ?_; clear hK K)); (iterate 5 (refine wpRq_det' (by kernel_rfl) (fun K hK => ?_); go_simp; refine hK _ ?_; clear hK K)); (refine wpRq_call1 (f := 68) (X := .float .f32 _) rfl ?_ rfl (run_enter Try.func68 (by kernel_rfl) rfl) (fun n => (s_l01Finite _ _).mono (fun e w' ⟨he, hn⟩ => ⟨_, he, fun x hx => by cases hx; rfl, hn⟩)) ?_; (focus kernel_rfl); intro v hv; replace hv := hv _ rfl; (first | rw [P1.out] at hv | rw [P2.out] at hv); subst hv); (refine wpRq_det' (by kernel_rfl) (fun K hK => ?_); go_simp; refine hK _ ?_; clear hK K); (iterate 2 (refine wpRq_det' (by kernel_rfl) (fun K hK => ?_); go_simp; refine hK _ ?_; clear hK K)); (iterate 11 (refine wpRq_det' (by kernel_rfl) (fun K hK => ?_); go_simp; refine hK _ ?_; clear hK K)); (refine wpRq_det' (by kernel_rfl) (fun K hK => ?_); go_simp; refine hK _ ?_; clear hK K); (refine wpRq_nil ?_); intro nq)
        go_wp2
      · go_roundw
        case rel => exact ⟨k + 1, _, by omega, by go_num, rfl, noneYet_succ hn hlt (by rw [← HC.out]; simp only [P1.out, P2.out]; simpa [flt] using hp3)⟩
        case measure => simp [intOf]; omega
      · go_ret
        exact ⟨by rw [any_at hlt (by rw [← HC.out]; simp [P1.out, P2.out, flt, hp3])]; rfl, _, World.drewN_drewN _ _ _⟩
    · obtain rfl : k = cs.length := by omega
      have ha := Lib.hid (any_none hn)
      go_wp2
      go_ret
      exact ⟨by rw [ha.out]; simp; omega, _, rfl⟩
set_option maxHeartbeats 400000 in
theorem f_IndexFunc_Cycle (g : Nat) (p : Cyc → Bool) (hg : ∀ args W, (callFunc g args).run Try.prog W = .ok (.enter g args) W) (H : ∀ c W, Calls Try.prog g #[cyc c] W fun e w' => e = .returned (.bool (p c)) ∧ Below W.heap.size W w') (v : Value) (cs : List Cyc) (w : World) (hv : RC w v cs) :
    Calls Try.prog 83 #[v, .func (.func g) #[] #[]] w fun e w' => e = .returned (.int .i64 (idxOf (cs.findIdx? p))) ∧ Below w.heap.size w w' := by
  obtain ⟨pp, cap, rfl, hm, hc⟩ := hv
  have HH := Lib.hid H
  clear H
  go_enter Try.func83, Try.ntmps83
  go_wp2_with fail
  go_loopw [8] (fun i wr => ∃ k : Nat, k ≤ cs.length ∧ i = .int .i64 k ∧ Below w.heap.size w wr ∧ noneYet p cs k) (fun i _ => cs.length - (intOf i).toNat)
  case atStart => exact ⟨0, Nat.zero_le _, rfl, Below.refl _ _, noneYet_zero _ _⟩
  case round =>
    obtain ⟨k, hk, rfl, hb, hn⟩ := hrel
    by_cases hlt : k < cs.length
    · obtain ⟨b, off, rfl, hcell⟩ := hc.resolve_left (by omega)
      obtain ⟨h1, h2, h3⟩ := CycAt_of hcell k hlt
      have g1 := (hb.cell (p := ⟨b, off + k * 3, none⟩) (block_lt_of_cell h1)).trans h1
      have g2 := (hb.cell (p := ⟨b, off + k * 3 + 1, none⟩) (block_lt_of_cell h2)).trans h2
      have g3 := (hb.cell (p := ⟨b, off + k * 3 + 2, none⟩) (block_lt_of_cell h3)).trans h3
      have hp' : p cs[k] = true ∨ p cs[k] = false := by cases p cs[k] <;> simp
      generalize hcc : cs[k] = c at h1 h2 h3 g1 g2 g3 hp'
      have HC := Lib.hid hcc
      clear hcell hc h1 h2 h3 hcc
      obtain ⟨lo, hi, wh⟩ := c
      simp only at g1 g2 g3
      have Hb := Lib.hid hb
      clear hb
      rcases hp' with hp | hp
      all_goals
        have HP := Lib.hid hp
        clear hp
        go_wp2_with (refine (HH.out ⟨lo, hi, wh⟩ _).mono ?_; rintro e w' ⟨rfl, hb1⟩; rw [HP.out])
      · go_ret
        exact ⟨by rw [idxOf_found hn hlt (by rw [HC.out]; exact HP.out)]; rfl, below_step (Nat.le_refl _) Hb.out hb1⟩
      · go_roundw
        case rel => exact ⟨k + 1, by omega, by go_num, below_step (Nat.le_refl _) Hb.out hb1, noneYet_succ hn hlt (by rw [HC.out]; exact HP.out)⟩
        case measure => simp [intOf]; omega
    · go_wp2
      go_ret
      exact ⟨by rw [idxOf_none hn (by omega)]; rfl, hb⟩
theorem f_ContainsFunc_Cycle (g : Nat) (p : Cyc → Bool) (hg : ∀ args W, (callFunc g args).run Try.prog W = .ok (.enter g args) W) (H : ∀ c W, Calls Try.prog g #[cyc c] W fun e w' => e = .returned (.bool (p c)) ∧ Below W.heap.size W w') (v : Value) (cs : List Cyc) (w : World) (hv : RC w v cs) :
    Calls Try.prog 76 #[v, .func (.func g) #[] #[]] w fun e w' => e = .returned (.bool (cs.any p)) ∧ Below w.heap.size w w' := by
  have hb := idxOf_ge p cs
  have Hg := Lib.hid hg
  have HH := Lib.hid H
  clear H hg
  go_enter Try.func76, Try.ntmps76
  go_wp2_with (go_at_call 83; refine (f_IndexFunc_Cycle g p Hg.out HH.out v cs _ hv).mono ?_; rintro e w' ⟨rfl, hb1⟩)
  go_ret
  exact ⟨by first | rfl | simp [← hb], (by repeat (first | exact Below.refl _ _ | assumption | refine below_drewN ?_ _ | refine below_alloc (Nat.le_refl _) ?_ _ | (refine Below.setCell ?_ (by first | exact Nat.le_refl _ | (simp; done) | (simp; omega) | omega) _) | (refine below_step (Nat.le_refl _) ?_ (by assumption))))⟩
def cycOk (c : Cyc) : Bool := !(!fin .f32 c.lo || !fin .f32 c.hi || flt .f32 c.hi c.lo)
def areCyc (cs : List Cyc) : Bool := !cs.any (fun c => !fin .f32 c.lo || !fin .f32 c.hi || flt .f32 c.hi c.lo) && decide (cs.length ≤ 64)
theorem i_AreCycles (v : Value) (cs : List Cyc) (w : World) (hx : RC w v cs) : Calls Try.prog 62 #[v] w fun e w' => e = .returned (.bool (areCyc cs)) ∧ Below w.heap.size w w' := by
  have hx' := hx
  obtain ⟨p1, cap1, rfl, hm1, hc1⟩ := hx'
  have HX := Lib.hid hx
  clear hx hc1
  by_cases hl : cs.length ≤ 64
  · go_enter Try.func62, Try.ntmps62
    go_wp2_with (go_at_call 76; refine (f_ContainsFunc_Cycle _ (fun c => !fin .f32 c.lo || !fin .f32 c.hi || flt .f32 c.hi c.lo) (run_enter Try.func77 (by kernel_rfl) rfl) i_AreCycles_1 _ cs _ HX.out).mono ?_; rintro e w' ⟨rfl, hb⟩)
    go_ret
    exact ⟨by unfold areCyc; simp [hl], (by repeat (first | exact Below.refl _ _ | assumption | refine below_drewN ?_ _ | refine below_alloc (Nat.le_refl _) ?_ _ | (refine Below.setCell ?_ (by first | exact Nat.le_refl _ | (simp; done) | (simp; omega) | omega) _) | (refine below_step (Nat.le_refl _) ?_ (by assumption))))⟩
  · go_enter Try.func62, Try.ntmps62
    go_wp2
    go_ret
    exact ⟨by unfold areCyc; simp [hl], (by repeat (first | exact Below.refl _ _ | assumption | refine below_drewN ?_ _ | refine below_alloc (Nat.le_refl _) ?_ _ | (refine Below.setCell ?_ (by first | exact Nat.le_refl _ | (simp; done) | (simp; omega) | omega) _) | (refine below_step (Nat.le_refl _) ?_ (by assumption))))⟩
def zeroCyc : Cyc := ⟨0, 0, false⟩
def partC (cs : List Cyc) (k : Nat) : List Cyc := cs.take k ++ List.replicate (cs.length - k) zeroCyc
theorem partC_length (cs : List Cyc) (k : Nat) (hk : k ≤ cs.length) : (partC cs k).length = cs.length := by simp [partC]; omega
def OC (B : Nat) (w : World) (v : Value) (cs : List Cyc) : Prop := w.ownsRow B 70 3 v cs.length (cycCells cs)
theorem OC_below {B : Nat} {w w' : World} {v : Value} {cs : List Cyc} (h : OC B w v cs) (hb : Below w.heap.size w w') : OC B w' v cs := ownsRow_below h hb
theorem RC_of_own {B : Nat} {w : World} {v : Value} {cs : List Cyc} (h : OC B w v cs) (hn : cs.length ≤ 281474976710656) : RC w v cs := Sl_of_own h hn
theorem list3_ext {a b : List Value} {n : Nat} (ha : a.length = n * 3) (hb : b.length = n * 3) (h : ∀ k, k < n → a[k * 3]? = b[k * 3]? ∧ a[k * 3 + 1]? = b[k * 3 + 1]? ∧ a[k * 3 + 2]? = b[k * 3 + 2]?) : a = b := by
  apply List.ext_getElem?
  intro j
  by_cases hj : j < n * 3
  · obtain ⟨h0, h1, h2⟩ := h (j / 3) (by omega)
    rcases (show j = j / 3 * 3 ∨ j = j / 3 * 3 + 1 ∨ j = j / 3 * 3 + 2 by omega) with e | e | e
    · rw [← e] at h0; exact h0
    · rw [← e] at h1; exact h1
    · rw [← e] at h2; exact h2
  · rw [List.getElem?_eq_none (by omega), List.getElem?_eq_none (by omega)]
theorem made_cyc (n : Nat) : (madeCells #[Value.float .f32 0, .float .f32 0, .bool false] (n * 3)).toList = cycCells (List.replicate n zeroCyc) := by
  refine list3_ext (n := n) (by simp [size_madeCells]) (by simp [cycCells_length]) fun k hk => ?_
  obtain ⟨h0, h1, h2⟩ := cycCells_at (List.replicate n zeroCyc) k (by simpa using hk)
  rw [h0, h1, h2]
  have e0 : k * 3 % 3 = 0 := by omega
  have e1 : (k * 3 + 1) % 3 = 1 := by omega
  have e2 : (k * 3 + 2) % 3 = 2 := by omega
  refine ⟨?_, ?_, ?_⟩
  · simp [madeCells, show k * 3 < n * 3 by omega, zeroCyc]
  · simp [madeCells, show k * 3 + 1 < n * 3 by omega, e1, zeroCyc]
  · simp [madeCells, show k * 3 + 2 < n * 3 by omega, e2, zeroCyc]
theorem cycCells_set (cs : List Cyc) (k : Nat) (c : Cyc) (hk : k < cs.length) : (((cycCells cs).set (k * 3) (.float .f32 c.lo)).set (k * 3 + 1) (.float .f32 c.hi)).set (k * 3 + 2) (.bool c.wh) = cycCells (cs.set k c) := by
  refine list3_ext (n := cs.length) (by simp [cycCells_length]) (by simp [cycCells_length]) fun j hj => ?_
  obtain ⟨h0, h1, h2⟩ := cycCells_at (cs.set k c) j (by simpa using hj)
  obtain ⟨g0, g1, g2⟩ := cycCells_at cs j hj
  have hl := cycCells_length cs
  rw [h0, h1, h2]
  by_cases e : k = j
  · subst e
    simp [List.getElem?_set, hl, show k * 3 < cs.length * 3 by omega, show k * 3 + 1 < cs.length * 3 by omega, show k * 3 + 2 < cs.length * 3 by omega]
  · simp only [List.getElem?_set, List.getElem_set_ne e]
    rw [if_neg (by omega), if_neg (by omega), if_neg (by omega), if_neg (by omega), if_neg (by omega), if_neg (by omega), if_neg (by omega), if_neg (by omega), if_neg (by omega)]
    exact ⟨g0, g1, g2⟩
theorem partC_set (cs : List Cyc) (k : Nat) (hk : k < cs.length) : (partC cs k).set k cs[k] = partC cs (k + 1) := by
  apply List.ext_getElem?
  intro j
  have h1 : (cs.take k).length = k := by simp; omega
  have h2 : (cs.take (k + 1)).length = k + 1 := by simp; omega
  simp only [partC, List.getElem?_set, List.length_append, List.length_replicate, h1, List.getElem?_append, h2, List.getElem?_take, List.getElem?_replicate]
  by_cases e : k = j
  · subst e
    simp [hk]
    omega
  · rw [if_neg e]
    by_cases h3 : j < k
    · simp [h3, show j < k + 1 by omega]
    · have h4 : ¬ j < k + 1 := by omega
      simp only [h3, h4, if_false]
      by_cases h5 : j - k < cs.length - k
      · rw [if_pos h5, if_pos (by omega)]
      · rw [if_neg h5, if_neg (by omega)]
theorem partC_all (cs : List Cyc) (k : Nat) (hk : cs.length ≤ k) : partC cs k = cs := by
  unfold partC; rw [List.take_of_length_le hk, show cs.length - k = 0 by omega]; simp
set_option maxHeartbeats 1000000 in
theorem l_toCycleS (v : Value) (cs : List Cyc) (w : World) (hx : RC w v cs) (hl : cs.length ≤ 1048576) :
    Calls Try.prog 35 #[v] w fun e w' => ∃ u, e = .returned u ∧ OC w.heap.size w' u cs ∧ Below w.heap.size w w' := by
  obtain ⟨p1, cap1, rfl, hm1, hc1⟩ := hx
  have hmk : ∀ w : World, (Instr.makeSlice 48 (.int .i64 (cs.length : Int)) (.int .i64 (cs.length : Int))).run Try.prog w = .ok (.slice (some ⟨w.heap.size, 0, none⟩) cs.length cs.length) (w.alloc (.cells (madeCells #[Value.float .f32 0, .float .f32 0, .bool false] (cs.length * 3)) 70)) := fun w => by
    have hinfo : (Try.prog.info? 70).map (fun i => (i.zero, i.size, i.bytes)) = some (some (.agg #[.float .f32 0, .float .f32 0, .bool false]), 3, 12) := by kernel_rfl
    obtain ⟨i, hi, hzz⟩ := Option.map_eq_some_iff.1 hinfo
    simp only [Prod.mk.injEq] at hzz
    obtain ⟨hz, hs, hb⟩ := hzz
    have hr := run_make (P := Try.prog) w 48 70 i _ Try.underlying48 hi hz .i64 .i64 cs.length cs.length (by omega) (by omega) (by rw [hb]; omega) (by omega)
    simp only [Int.toNat_natCast, hs] at hr
    exact hr
  have hstart := World.ownsRow_lit (base := w.heap.size) (e := 70) (size := 3) w (madeCells #[Value.float .f32 0, .float .f32 0, .bool false] (cs.length * 3)) cs.length (Nat.le_refl _) (by unfold maxLen; omega) (by rw [size_madeCells])
  rw [made_cyc] at hstart
  have Hs := Lib.hid hstart
  clear hstart
  obtain ⟨B, hB⟩ : ∃ B, B = w.heap.size := ⟨_, rfl⟩
  have HB := Lib.hid hB
  go_enter Try.func35, Try.ntmps35
  go_wp2_with fail
  rw [← hB]
  clear hB hmk
  go_loopw [4] (fun i wr => ∃ k : Nat, k ≤ cs.length ∧ i = .int .i64 k ∧ wr.ownsRow B 70 3 (.slice (some ⟨B, 0, none⟩) cs.length cs.length) cs.length (cycCells (partC cs k)) ∧ Below B w wr) (fun i _ => cs.length - (intOf i).toNat)
  case atStart => exact ⟨0, Nat.zero_le _, rfl, by rw [HB.out]; exact Hs.out, by rw [HB.out]; exact (by repeat (first | exact Below.refl _ _ | assumption | refine below_drewN ?_ _ | refine below_alloc (Nat.le_refl _) ?_ _ | (refine Below.setCell ?_ (by first | exact Nat.le_refl _ | (simp; done) | (simp; omega) | omega) _) | (refine below_step (Nat.le_refl _) ?_ (by assumption))))⟩
  case round =>
    obtain ⟨k, hk, rfl, hown, hb⟩ := hrel
    by_cases hlt : k < cs.length
    · obtain ⟨b, off, rfl, hcell⟩ := hc1.resolve_left (by omega)
      obtain ⟨c1, c2, c3⟩ := CycAt_of hcell k hlt
      obtain ⟨e1, e2, e3⟩ := cycCells_at (partC cs k) k (by rw [partC_length _ _ hk]; exact hlt)
      have h1 := (hb.cell (p := ⟨b, off + k * 3, none⟩) (by rw [HB.out]; exact block_lt_of_cell c1)).trans c1
      have h2 := (hb.cell (p := ⟨b, off + k * 3 + 1, none⟩) (by rw [HB.out]; exact block_lt_of_cell c2)).trans c2
      have h3 := (hb.cell (p := ⟨b, off + k * 3 + 2, none⟩) (by rw [HB.out]; exact block_lt_of_cell c3)).trans c3
      have d1 := (hown.cellAt (k * 3) (by omega)).trans e1
      have d2 := (hown.cellAt (k * 3 + 1) (by omega)).trans e2
      have d3 := (hown.cellAt (k * 3 + 2) (by omega)).trans e3
      have HO := Lib.hid hown
      have HS := Lib.hid (partC_set cs k hlt)
      have Hb := Lib.hid hb
      clear hcell hc1 c1 c2 c3 e1 e2 e3 hb hown
      generalize cs[k] = c at h1 h2 h3 HS
      obtain ⟨lo, hi, wh⟩ := c
      simp only at h1 h2 h3
      go_wp2_with fail
      refine (l_toCycle ⟨lo, hi, wh⟩ _).mono ?_
      rintro e w' ⟨rfl, hb1⟩
      have o1 := ownsRow_below HO.out hb1
      have f1 := o1.frozenAt (k * 3)
      have f2 := o1.frozenAt (k * 3 + 1)
      have f3 := o1.frozenAt (k * 3 + 2)
      have hB0 : B < wr.heap.size := block_lt_of_cell d1
      have g1 := (hb1.cell (p := ⟨B, k * 3, none⟩) hB0).trans d1
      have g2 := (hb1.cell (p := ⟨B, k * 3 + 1, none⟩) hB0).trans d2
      have g3 := (hb1.cell (p := ⟨B, k * 3 + 2, none⟩) hB0).trans d3
      have O1 := Lib.hid o1
      have Hb1 := Lib.hid hb1
      clear o1 hb1 h1 h2 h3 d1 d2 d3
      go_wp2
      go_roundw
      case rel =>
        refine ⟨k + 1, by omega, by go_num, ?_, ?_⟩
        · have s1 := (O1.out.stored (k * 3) (.float .f32 lo)).1
          have s2 := (s1.stored (k * 3 + 1) (.float .f32 hi)).1
          have s3 := (s2.stored (k * 3 + 2) (.bool wh)).1
          rw [cycCells_set (partC cs k) k ⟨lo, hi, wh⟩ (by rw [partC_length _ _ hk]; exact hlt), HS.out] at s3
          exact s3
        · exact (((Hb.out.trans (Hb1.out.mono (Nat.le_of_lt hB0))).setCell (Nat.le_refl _) _).setCell (Nat.le_refl _) _).setCell (Nat.le_refl _) _
      case measure => simp [intOf]; omega
    · have hown' : wr.ownsRow B 70 3 (.slice (some ⟨B, 0, none⟩) cs.length cs.length) cs.length (cycCells cs) := by rw [← congrArg cycCells (partC_all cs k (by omega))]; exact hown
      go_wp2
      go_ret
      exact ⟨_, rfl, by rw [← HB.out]; exact hown', by rw [← HB.out]; exact hb⟩
set_option maxHeartbeats 1000000 in
theorem l_eqCycleS (v v' : Value) (cs ds : List Cyc) (w : World) (hx : RC w v cs) (hy : RC w v' ds) (he : CEq cs ds) :
    Calls Try.prog 30 #[v, v'] w fun e w' => e = .returned (.bool true) ∧ Below w.heap.size w w' := by
  obtain ⟨p1, cap1, rfl, hm1, hc1⟩ := hx
  obtain ⟨p2, cap2, rfl, hm2, hc2⟩ := hy
  have hl := he.1
  have Hl := Lib.hid hl
  have hne : (((cs.length : Nat) : Int) == ((ds.length : Nat) : Int)) = true := by rw [hl]; simp
  have hne2 : (((cs.length : Nat) : Int) != ((ds.length : Nat) : Int)) = false := by rw [hl]; simp
  clear hl
  go_enter Try.func30, Try.ntmps30
  go_wp2_with fail
  clear hne hne2
  go_loopw [5] (fun i wr => ∃ k : Nat, k ≤ cs.length ∧ i = .int .i64 k ∧ Below w.heap.size w wr) (fun i _ => cs.length - (intOf i).toNat)
  case atStart => exact ⟨0, Nat.zero_le _, rfl, Below.refl _ _⟩
  case round =>
    obtain ⟨k, hk, rfl, hb0⟩ := hrel
    by_cases hlt : k < cs.length
    · have hlt2 : k < ds.length := by rw [← Hl.out]; exact hlt
      obtain ⟨b1, o1, rfl, hcell1⟩ := hc1.resolve_left (by omega)
      obtain ⟨b2, o2, rfl, hcell2⟩ := hc2.resolve_left (by omega)
      obtain ⟨c1, c2, c3⟩ := CycAt_of hcell1 k hlt
      obtain ⟨d1, d2, d3⟩ := CycAt_of hcell2 k hlt2
      have c1 := (hb0.cell (p := ⟨b1, o1 + k * 3, none⟩) (block_lt_of_cell c1)).trans c1
      have c2 := (hb0.cell (p := ⟨b1, o1 + k * 3 + 1, none⟩) (block_lt_of_cell c2)).trans c2
      have c3 := (hb0.cell (p := ⟨b1, o1 + k * 3 + 2, none⟩) (block_lt_of_cell c3)).trans c3
      have d1 := (hb0.cell (p := ⟨b2, o2 + k * 3, none⟩) (block_lt_of_cell d1)).trans d1
      have d2 := (hb0.cell (p := ⟨b2, o2 + k * 3 + 1, none⟩) (block_lt_of_cell d2)).trans d2
      have d3 := (hb0.cell (p := ⟨b2, o2 + k * 3 + 2, none⟩) (block_lt_of_cell d3)).trans d3
      have HE := Lib.hid (he.2 k hlt hlt2)
      have Hb0 := Lib.hid hb0
      clear hcell1 hcell2 hc1 hc2 hb0
      generalize cs[k] = c at c1 c2 c3 HE
      generalize ds[k] = d at d1 d2 d3 HE
      obtain ⟨lo, hi, wh⟩ := c
      obtain ⟨lo', hi', wh'⟩ := d
      simp only at c1 c2 c3 d1 d2 d3
      have c1 : ∀ x : Later wr, x.to.cell? ⟨b1, o1 + k * 3, none⟩ = some (.float .f32 lo) := fun x => x.cell c1
      have c2 : ∀ x : Later wr, x.to.cell? ⟨b1, o1 + k * 3 + 1, none⟩ = some (.float .f32 hi) := fun x => x.cell c2
      have c3 : ∀ x : Later wr, x.to.cell? ⟨b1, o1 + k * 3 + 2, none⟩ = some (.bool wh) := fun x => x.cell c3
      have d1 : ∀ x : Later wr, x.to.cell? ⟨b2, o2 + k * 3, none⟩ = some (.float .f32 lo') := fun x => x.cell d1
      have d2 : ∀ x : Later wr, x.to.cell? ⟨b2, o2 + k * 3 + 1, none⟩ = some (.float .f32 hi') := fun x => x.cell d2
      have d3 : ∀ x : Later wr, x.to.cell? ⟨b2, o2 + k * 3 + 2, none⟩ = some (.bool wh') := fun x => x.cell d3
      go_wp2_with fail
      ((refine wp_region_rl_lit (fun _ _ u => u = .bool true) (by kernel_rfl) (by kernel_rfl) ?_); (iterate 8 (refine wpRl_det' (by kernel_rfl) (fun K hK => ?_); go_simp; refine hK _ ?_; clear hK K)); (refine wpRl_call2 (f := 55) (X := cyc ⟨lo, hi, wh⟩) (Y := cyc ⟨lo', hi', wh'⟩) rfl (by kernel_rfl) rfl rfl (run_enter Try.func55 (by kernel_rfl) rfl) (fun x => (l_eqCycle ⟨lo, hi, wh⟩ ⟨lo', hi', wh'⟩ _ HE.out).mono (fun e w' ⟨he, hn⟩ => ⟨_, he, rfl, hn⟩)) ?_; intro v hv; subst hv); (refine wpRl_det' (by kernel_rfl) (fun K hK => ?_); go_simp; refine hK _ ?_; clear hK K); (refine wpRq_nil ?_); intro w' hb)
      go_wp2
      go_roundw
      case rel => exact ⟨k + 1, by omega, by go_num, below_step (Nat.le_refl _) Hb0.out hb⟩
      case measure => simp [intOf]; omega
    · go_wp2
      go_ret
      exact ⟨rfl, hb0⟩
end Go.Proofs.Ytmpajgpnbiaoiaa
