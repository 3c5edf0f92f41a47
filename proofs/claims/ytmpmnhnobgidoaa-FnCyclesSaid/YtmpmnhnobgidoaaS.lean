/- Walks: the damage of cycles. -/
import Derived.Test.YtmpmnhnobgidoaaK
namespace Go.Proofs.Ytmpmnhnobgidoaa
set_option linter.unusedSimpArgs false
set_option linter.unusedVariables false
open Go.RowKit Go.Fl

theorem CycAt.drewN {w : World} {b o : Nat} {c : Cyc} (h : CycAt w b o c) (n : Nat) : CycAt (w.drewN n) b o c := h
def wt (c : Cyc) : Nat := if c.wh then 1065353216 else 1056964608
/-- x times q, n times. -/
def times (q x : Nat) : Nat → Nat
  | 0 => x
  | n + 1 => fa .mul .f32 (times q x n) q
def dam1 (c : Cyc) (s p : Nat) : Nat := times (fa .quo .f32 (rng c) s) (wt c) p
def damSum (cs : List Cyc) (s p : Nat) : Nat → Nat
  | 0 => 0
  | k + 1 => fa .add .f32 (damSum cs s p k) (dam1 (cs.getD k zeroCyc) s p)
def inside (p a b : Int) : Bool := decide (a ≤ p) && decide (p ≤ b)
def damGood (cs : List Cyc) (s : Nat) (p : Int) : Bool := areCyc cs && above s && inside p 1 12
theorem cn_wt (c : Cyc) : cn .f32 (wt c) = wt c := by unfold wt; split <;> rfl
theorem cn_times (q x n : Nat) (hx : cn .f32 x = x) : cn .f32 (times q x n) = times q x n := by
  cases n with
  | zero => exact hx
  | succ n => exact cn_fa _ _ _ _
theorem cn_damSum (cs : List Cyc) (s p k : Nat) : cn .f32 (damSum cs s p k) = damSum cs s p k := by
  cases k with
  | zero => rfl
  | succ k => exact cn_fa _ _ _ _
theorem damSum_succ (cs : List Cyc) (s p k : Nat) (hk : k < cs.length) : damSum cs s p (k + 1) = fa .add .f32 (damSum cs s p k) (dam1 cs[k] s p) := by simp [damSum, hk]
theorem i_within (p a b : Int) (w : World) : Calls Try.prog 58 #[.int .i64 p, .int .i64 a, .int .i64 b] w fun e w' => e = .returned (.bool (inside p a b)) ∧ ∃ n, w' = w.drewN n := by
  by_cases h : a ≤ p
  all_goals
    go_enter Try.func58, Try.ntmps58
    go_wp2
    go_ret
    exact ⟨by first | (simp [inside, h]; done) | (simp [inside]; omega), 0, rfl⟩
theorem i_weightOf (c : Cyc) (w : World) : Calls Try.prog 59 #[cyc c] w fun e w' => e = .returned (.float .f32 (wt c)) ∧ Below w.heap.size w w' := by
  obtain ⟨lo, hi, wh⟩ := c
  cases wh
  all_goals
    go_enter Try.func59, Try.ntmps59
    go_wp2
    go_ret
    exact ⟨rfl, (by repeat (first | exact Below.refl _ _ | assumption | refine below_drewN ?_ _ | refine below_alloc (Nat.le_refl _) ?_ _ | (refine Below.setCell ?_ (by first | exact Nat.le_refl _ | (simp; done) | (simp; omega) | omega) _) | (refine below_step (Nat.le_refl _) ?_ (by assumption))))⟩
def DamRel (F G : Nat) (f : FuncId) (args : Array Value) (u : Value) : Prop := ∀ c, args = #[cyc c] → (f = F → ∃ r, u = .float .f32 r ∧ cn .f32 r = rng c) ∧ (f = G → u = .float .f32 (wt c))
theorem rng_ne_wt : (60 : Nat) ≠ 59 := by decide
set_option maxHeartbeats 4000000 in
theorem i_DamageOf (v : Value) (cs : List Cyc) (s : Nat) (p : Int) (w : World) (hx : RC w v cs) : Calls Try.prog 19 #[v, .float .f32 s, .int .i64 p] w (Num1 (damGood cs s p) (damSum cs s p.toNat cs.length) w) := by
  obtain ⟨p1, cap1, rfl, hm1, hc1⟩ := id hx
  have HX := Lib.hid hx
  have HC1 := Lib.hid hc1
  clear hx hc1
  have h1 : aboveAll [s] = above s := by simp [aboveAll]
  have H1 := Lib.hid h1
  clear h1
  cases ha : areCyc cs
  · have HA := Lib.hid ha
    clear ha
    go_enter Try.func19, Try.ntmps19
    go_wp2_with (go_at_call 23; refine (i_AreCycles _ cs _ HX.out).mono ?_; rintro e w' ⟨rfl, hb⟩; rw [HA.out])
    go_ret2
    exact Num1.no (by unfold damGood; rw [HA.out]; rfl) (by repeat (first | exact Below.refl _ _ | assumption | refine below_drewN ?_ _ | refine below_alloc (Nat.le_refl _) ?_ _ | (refine Below.setCell ?_ (by first | exact Nat.le_refl _ | (simp; done) | (simp; omega) | omega) _) | (refine below_step (Nat.le_refl _) ?_ (by assumption))))
  cases hs : above s
  · have HA := Lib.hid ha
    have HS := Lib.hid hs
    clear ha hs
    go_enter Try.func19, Try.ntmps19
    go_wp2_with (first | (go_at_call 23; refine (i_AreCycles _ cs _ HX.out).mono ?_; rintro e w' ⟨rfl, hb⟩; rw [HA.out]) | (go_at_call 57; refine (i_arePositive _ [s] _ (RF_top1 _ _ (by simp) _ _)).mono ?_; rintro e w' ⟨rfl, n, rfl⟩; rw [H1.out, HS.out]))
    go_ret2
    exact Num1.no (by unfold damGood; rw [HA.out, HS.out]; rfl) (by repeat (first | exact Below.refl _ _ | assumption | refine below_drewN ?_ _ | refine below_alloc (Nat.le_refl _) ?_ _ | (refine Below.setCell ?_ (by first | exact Nat.le_refl _ | (simp; done) | (simp; omega) | omega) _) | (refine below_step (Nat.le_refl _) ?_ (by assumption))))
  cases hi : inside p 1 12
  · have HA := Lib.hid ha
    have HS := Lib.hid hs
    have HI := Lib.hid hi
    clear ha hs hi
    go_enter Try.func19, Try.ntmps19
    go_wp2_with (first | (go_at_call 23; refine (i_AreCycles _ cs _ HX.out).mono ?_; rintro e w' ⟨rfl, hb⟩; rw [HA.out]) | (go_at_call 57; refine (i_arePositive _ [s] _ (RF_top1 _ _ (by simp) _ _)).mono ?_; rintro e w' ⟨rfl, n, rfl⟩; rw [H1.out, HS.out]) | (go_at_call 58; refine (i_within _ _ _ _).mono ?_; rintro e w' ⟨rfl, n, rfl⟩; rw [HI.out]))
    go_ret2
    exact Num1.no (by unfold damGood; rw [HA.out, HS.out, HI.out]; rfl) (by repeat (first | exact Below.refl _ _ | assumption | refine below_drewN ?_ _ | refine below_alloc (Nat.le_refl _) ?_ _ | (refine Below.setCell ?_ (by first | exact Nat.le_refl _ | (simp; done) | (simp; omega) | omega) _) | (refine below_step (Nat.le_refl _) ?_ (by assumption))))
  obtain ⟨hp1, hp12⟩ : 1 ≤ p ∧ p ≤ 12 := by simpa [inside] using hi
  obtain ⟨m, rfl⟩ : ∃ m : Nat, p = (m : Int) := ⟨p.toNat, by omega⟩
  have HG : Hid (damGood cs s m = true) := by show _ = _; unfold damGood; rw [ha, hs, hi]; rfl
  have HA := Lib.hid ha
  have HS := Lib.hid hs
  have HI := Lib.hid hi
  clear ha hs hi
  go_enter Try.func19, Try.ntmps19
  go_wp2_with (first | (go_at_call 23; refine (i_AreCycles _ cs _ HX.out).mono ?_; rintro e w' ⟨rfl, hb⟩; rw [HA.out]) | (go_at_call 57; refine (i_arePositive _ [s] _ (RF_top1 _ _ (by simp) _ _)).mono ?_; rintro e w' ⟨rfl, n, rfl⟩; rw [H1.out, HS.out]) | (go_at_call 58; refine (i_within _ _ _ _).mono ?_; rintro e w' ⟨rfl, n, rfl⟩; rw [HI.out]))
  go_loopw [8, 29] (fun t i wr => ∃ (k q : Nat), k ≤ cs.length ∧ i = .int .i64 k ∧ t = .float .f32 q ∧ cn .f32 q = damSum cs s m k ∧ Below w.heap.size w wr) (fun _ i _ => cs.length - (intOf i).toNat)
  case atStart => exact ⟨0, _, Nat.zero_le _, rfl, rfl, rfl, (by repeat (first | exact Below.refl _ _ | assumption | refine below_drewN ?_ _ | refine below_alloc (Nat.le_refl _) ?_ _ | (refine Below.setCell ?_ (by first | exact Nat.le_refl _ | (simp; done) | (simp; omega) | omega) _) | (refine below_step (Nat.le_refl _) ?_ (by assumption))))⟩
  case round =>
    obtain ⟨k, q, hk, rfl, rfl, hq, hb0⟩ := hrel
    have HQ := Lib.hid hq
    have HB0 := Lib.hid hb0
    clear hq hb0
    by_cases hlt : k < cs.length
    · obtain ⟨b1, o1, rfl, hcell1⟩ := HC1.out.resolve_left (by omega)
      obtain ⟨g1, g2, g3⟩ := CycAt_of hcell1 k hlt
      have HT := Lib.hid (damSum_succ cs s m k hlt)
      have g1 := (HB0.out.cell (p := ⟨b1, o1 + k * 3, none⟩) (block_lt_of_cell g1)).trans g1
      have g2 := (HB0.out.cell (p := ⟨b1, o1 + k * 3 + 1, none⟩) (block_lt_of_cell g2)).trans g2
      have g3 := (HB0.out.cell (p := ⟨b1, o1 + k * 3 + 2, none⟩) (block_lt_of_cell g3)).trans g3
      clear hcell1
      generalize cs[k] = c at g1 g2 g3 HT
      obtain ⟨lo, hi, wh⟩ := c
      simp only at g1 g2 g3
      go_wp2_with fail
      refine wp_world fun W HW => ?_
      have hbW : Below wr.heap.size wr W := by rw [HW.out]; exact (by repeat (first | exact Below.refl _ _ | assumption | refine below_drewN ?_ _ | refine below_alloc (Nat.le_refl _) ?_ _ | (refine Below.setCell ?_ (by first | exact Nat.le_refl _ | (simp; done) | (simp; omega) | omega) _) | (refine below_step (Nat.le_refl _) ?_ (by assumption))))
      obtain ⟨t1, t2, t3⟩ : (∀ x : Later W, x.to.cell? ⟨wr.heap.size, 0, none⟩ = some (.float .f32 lo)) ∧ (∀ x : Later W, x.to.cell? ⟨wr.heap.size, 1, none⟩ = some (.float .f32 hi)) ∧ (∀ x : Later W, x.to.cell? ⟨wr.heap.size, 2, none⟩ = some (.bool wh)) := by
        have T : CycAt W wr.heap.size 0 ⟨lo, hi, wh⟩ := by rw [HW.out]; exact cyc_top _ _ rfl _ _ _ _
        exact ⟨fun x => (T.later x).1, fun x => (T.later x).2.1, fun x => (T.later x).2.2⟩
      have HBW := Lib.hid (below_step (Nat.le_refl _) HB0.out hbW)
      clear g1 g2 g3 hbW
      ((refine wp_region_rl_lit (DamRel 60 59) (by kernel_rfl) (by kernel_rfl) ?_); (refine wpRl_det' (by kernel_rfl) (fun K hK => ?_); go_simp; refine hK _ ?_; clear hK K); (refine wpRl_call1 (f := 59) (X := cyc ⟨lo, hi, wh⟩) rfl (by kernel_rfl) rfl (run_enter Try.func59 (by kernel_rfl) rfl) (fun x => (i_weightOf ⟨lo, hi, wh⟩ _).mono (fun e w' ⟨he, hn⟩ => ⟨_, he, fun c hc => ⟨fun h => absurd h.symm rng_ne_wt, fun _ => by cases hc; rfl⟩, hn⟩)) ?_; intro v hv; obtain rfl := (hv _ rfl).2 rfl); (refine wpRl_det' (by kernel_rfl) (fun K hK => ?_); go_simp; refine hK _ ?_; clear hK K); (refine wpRl_call1 (f := 60) (X := cyc ⟨lo, hi, wh⟩) rfl (by kernel_rfl) rfl (run_enter Try.func60 (by kernel_rfl) rfl) (fun x => (i_rangeOf ⟨lo, hi, wh⟩ _).mono (fun e w' ⟨he, hn⟩ => by obtain ⟨r, rfl, hr⟩ := he; exact ⟨_, rfl, fun c hc => ⟨fun _ => ⟨r, rfl, by cases hc; exact hr⟩, fun h => absurd h rng_ne_wt⟩, hn⟩)) ?_; intro v hv; obtain ⟨r, rfl, hr⟩ := (hv _ rfl).1 rfl; replace hr := Lib.hid hr); (refine wpRl_det' (by kernel_rfl) (fun K hK => ?_); go_simp; refine hK _ ?_; clear hK K); (refine wpRl_fa rfl rfl (by kernel_rfl) rfl rfl (by first | assumption | exact hrfl _) (by first | assumption | exact hrfl _) ?_; intro r hr); (iterate 2 (refine wpRl_det' (by kernel_rfl) (fun K hK => ?_); go_simp; refine hK _ ?_; clear hK K)); (refine wpRq_nil ?_); intro w' hb)
      have hr' : Hid (cn .f32 r = fa .quo .f32 (rng ⟨lo, hi, wh⟩) s) := by show _ = _; rw [hr.out]; simp only [fa_cn_left, fa_cn_right]
      have HB1 : Hid (Below w.heap.size w w') := below_step (Nat.le_refl _) HBW.out hb
      go_wp2_with fail
      go_loopw [11, 40] (fun x j wr => ∃ (i q : Nat), i ≤ m ∧ j = .int .i64 i ∧ x = .float .f32 q ∧ cn .f32 q = times (fa .quo .f32 (rng ⟨lo, hi, wh⟩) s) (wt ⟨lo, hi, wh⟩) i ∧ Below w.heap.size w wr) (fun _ j _ => m - (intOf j).toNat)
      case atStart => exact ⟨0, _, Nat.zero_le _, rfl, rfl, cn_wt _, HB1.out⟩
      case round =>
        obtain ⟨i, x, hi3, rfl, rfl, hx3, hb3⟩ := hrel
        have HX3 := Lib.hid hx3
        have HB3 := Lib.hid hb3
        clear hx3 hb3
        by_cases hlt3 : i < m
        · go_wp2_with (refine wpList_fa rfl rfl rfl rfl rfl (by first | assumption | exact hrfl _) (by first | assumption | exact hrfl _) ?_; intro r n hr)
          go_roundw
          case rel =>
            have hb3 := HB3.out
            exact ⟨i + 1, _, by omega, by go_num, rfl, by rw [‹Hid (cn .f32 _ = fa .mul .f32 _ _)›.out]; rfl, below_drewN hb3 _⟩
          case measure => simp [intOf]; omega
        · obtain rfl : i = m := by omega
          go_wp2_with (refine wpList_fa rfl rfl rfl rfl rfl (by first | assumption | exact hrfl _) (by first | assumption | exact hrfl _) ?_; intro r n hr)
          go_roundw
          case rel =>
            have hb3 := HB3.out
            exact ⟨k + 1, _, by omega, by go_num, rfl, by rw [HT.out, ‹Hid (cn .f32 _ = fa .add .f32 _ _)›.out]; rfl, below_drewN hb3 _⟩
          case measure => simp [intOf]; omega
    · obtain rfl : k = cs.length := by omega
      have hb0 := HB0.out
      go_wp2_with (go_at_call 49; refine (i_checked _ _).mono ?_; rintro e w' ⟨rfl, n, rfl⟩)
      go_ret2
      exact Num1.ok HG.out (HQ.out.trans (cn_damSum _ _ _ _).symm) (by repeat (first | exact Below.refl _ _ | assumption | refine below_drewN ?_ _ | refine below_alloc (Nat.le_refl _) ?_ _ | (refine Below.setCell ?_ (by first | exact Nat.le_refl _ | (simp; done) | (simp; omega) | omega) _) | (refine below_step (Nat.le_refl _) ?_ (by assumption))))
end Go.Proofs.Ytmpmnhnobgidoaa
