/- Walks: the same cycles, lists. -/
import Derived.Test.YtagnblklgbhopaaV
namespace Go.Proofs.Ytagnblklgbhopaa
set_option linter.unusedSimpArgs false
set_option linter.unusedVariables false
open Go.RowKit Go.Fl

/-- Whether a test holds of each pair. -/
def allYet {α : Type} (p : α → α → Bool) (xs ys : List α) (k : Nat) : Prop := ∀ j (h : j < xs.length) (h' : j < ys.length), j < k → p xs[j] ys[j] = true
theorem allYet_zero {α : Type} (p : α → α → Bool) (xs ys : List α) : allYet p xs ys 0 := fun _ _ _ h => absurd h (by omega)
theorem allYet_succ {α : Type} {p : α → α → Bool} {xs ys : List α} {k : Nat} (h : allYet p xs ys k) (hk : k < xs.length) (hk' : k < ys.length) (hp : p xs[k] ys[k] = true) : allYet p xs ys (k + 1) := fun j hj hj' hjk => by
  by_cases e : j = k
  · subst e; exact hp
  · exact h j hj hj' (by omega)
def pairs {α : Type} (p : α → α → Bool) : List α → List α → Bool
  | [], [] => true
  | x :: xs, y :: ys => p x y && pairs p xs ys
  | _, _ => false
theorem pairs_len {α : Type} {p : α → α → Bool} : ∀ {xs ys : List α}, xs.length ≠ ys.length → pairs p xs ys = false
  | [], [], h => absurd rfl h
  | [], _ :: _, _ => rfl
  | _ :: _, [], _ => rfl
  | x :: xs, y :: ys, h => by unfold pairs; rw [pairs_len (xs := xs) (ys := ys) (fun e => h (by simp [e]))]; simp
theorem pairs_all {α : Type} {p : α → α → Bool} : ∀ {xs ys : List α}, xs.length = ys.length → allYet p xs ys xs.length → pairs p xs ys = true
  | [], [], _, _ => rfl
  | [], _ :: _, h, _ => by cases h
  | _ :: _, [], h, _ => by cases h
  | x :: xs, y :: ys, h, ha => by
    unfold pairs
    rw [show p x y = true from ha 0 (by simp) (by simp) (by simp), pairs_all (by simpa using h) (fun j h1 h2 h3 => by
      have := ha (j + 1) (by simpa using h1) (by simpa using h2) (by simpa using h3)
      simpa using this)]
    rfl
theorem pairs_not {α : Type} {p : α → α → Bool} : ∀ {xs ys : List α} {k : Nat} (h1 : k < xs.length) (h2 : k < ys.length), p xs[k] ys[k] = false → pairs p xs ys = false
  | x :: xs, y :: ys, 0, _, _, h => by unfold pairs; simp only [List.getElem_cons_zero] at h; rw [h]; rfl
  | x :: xs, y :: ys, k + 1, h1, h2, h => by unfold pairs; rw [pairs_not (k := k) (by simpa using h1) (by simpa using h2) (by simpa using h)]; simp
theorem len_beq_false {m n : Nat} (h : m ≠ n) : (((m : Nat) : Int) != ((n : Nat) : Int)) = true := by simp; omega
theorem len_beq_true {m n : Nat} (h : m = n) : (((m : Nat) : Int) != ((n : Nat) : Int)) = false := by subst h; simp
set_option maxHeartbeats 1000000 in
theorem f_EqualFunc_Cycle (g : Nat) (p : Cyc → Cyc → Bool) (G : Cyc → Prop) (hg : ∀ args W, (callFunc g args).run Try.prog W = .ok (.enter g args) W) (H : ∀ c d W, G c → G d → Calls Try.prog g #[cyc c, cyc d] W fun e w' => e = .returned (.bool (p c d)) ∧ Below W.heap.size W w')
    (v v' : Value) (cs ds : List Cyc) (w : World) (hv : RC w v cs) (hv' : RC w v' ds) (hcs : ∀ c ∈ cs, G c) (hds : ∀ d ∈ ds, G d) :
    Calls Try.prog 32 #[v, v', .func (.func g) #[] #[]] w fun e w' => e = .returned (.bool (pairs p cs ds)) ∧ Below w.heap.size w w' := by
  obtain ⟨pp, cap, rfl, hm, hc⟩ := hv
  obtain ⟨pp', cap', rfl, hm', hc'⟩ := hv'
  have HH := Lib.hid H
  have HG := Lib.hid hcs
  have HG' := Lib.hid hds
  clear H hcs hds
  by_cases hl : cs.length = ds.length
  case neg =>
    have h1 := len_beq_false hl
    have HP := Lib.hid (pairs_len (p := p) hl)
    clear hl
    go_enter Try.func32, Try.ntmps32
    go_wp2_with fail
    go_ret
    exact ⟨by rw [HP.out]; rfl, (by repeat (first | exact Below.refl _ _ | assumption | refine below_drewN ?_ _ | refine below_alloc (Nat.le_refl _) ?_ _ | (refine Below.setCell ?_ (by first | exact Nat.le_refl _ | (simp; done) | (simp; omega) | omega) _) | (refine below_step (Nat.le_refl _) ?_ (by assumption))))⟩
  have h1 := len_beq_true hl
  have HL := Lib.hid hl
  clear hl
  go_enter Try.func32, Try.ntmps32
  go_wp2_with fail
  clear h1
  go_loopw [17] (fun i wr => ∃ k : Nat, k ≤ cs.length ∧ i = .int .i64 k ∧ Below w.heap.size w wr ∧ allYet p cs ds k) (fun i _ => cs.length - (intOf i).toNat)
  case atStart => exact ⟨0, Nat.zero_le _, rfl, Below.refl _ _, allYet_zero _ _ _⟩
  case round =>
    obtain ⟨k, hk, rfl, hb, hn⟩ := hrel
    by_cases hlt : k < cs.length
    · have hlt' : k < ds.length := by rw [← HL.out]; exact hlt
      obtain ⟨b, off, rfl, hcell⟩ := hc.resolve_left (by omega)
      obtain ⟨b', off', rfl, hcell'⟩ := hc'.resolve_left (by omega)
      obtain ⟨h1, h2, h3⟩ := CycAt_of hcell k hlt
      obtain ⟨i1, i2, i3⟩ := CycAt_of hcell' k hlt'
      have g1 := (hb.cell (p := ⟨b, off + k * 3, none⟩) (block_lt_of_cell h1)).trans h1
      have g2 := (hb.cell (p := ⟨b, off + k * 3 + 1, none⟩) (block_lt_of_cell h2)).trans h2
      have g3 := (hb.cell (p := ⟨b, off + k * 3 + 2, none⟩) (block_lt_of_cell h3)).trans h3
      have j1 := (hb.cell (p := ⟨b', off' + k * 3, none⟩) (block_lt_of_cell i1)).trans i1
      have j2 := (hb.cell (p := ⟨b', off' + k * 3 + 1, none⟩) (block_lt_of_cell i2)).trans i2
      have j3 := (hb.cell (p := ⟨b', off' + k * 3 + 2, none⟩) (block_lt_of_cell i3)).trans i3
      have q1 : ∀ o : Obj, (wr.alloc o).cell? ⟨b', off' + k * 3, none⟩ = _ := fun o => (((Below.refl wr.heap.size wr).alloc (Nat.le_refl _) o).cell (p := ⟨b', off' + k * 3, none⟩) (block_lt_of_cell j1)).trans j1
      have q2 : ∀ o : Obj, (wr.alloc o).cell? ⟨b', off' + k * 3 + 1, none⟩ = _ := fun o => (((Below.refl wr.heap.size wr).alloc (Nat.le_refl _) o).cell (p := ⟨b', off' + k * 3 + 1, none⟩) (block_lt_of_cell j2)).trans j2
      have q3 : ∀ o : Obj, (wr.alloc o).cell? ⟨b', off' + k * 3 + 2, none⟩ = _ := fun o => (((Below.refl wr.heap.size wr).alloc (Nat.le_refl _) o).cell (p := ⟨b', off' + k * 3 + 2, none⟩) (block_lt_of_cell j3)).trans j3
      have hp' : p cs[k] ds[k] = true ∨ p cs[k] ds[k] = false := by cases p cs[k] ds[k] <;> simp
      have Gc := Lib.hid (HG.out cs[k] (List.getElem_mem hlt))
      have Gd := Lib.hid (HG'.out ds[k] (List.getElem_mem hlt'))
      generalize hcc : cs[k] = c at h1 h2 h3 g1 g2 g3 hp' Gc
      generalize hdd : ds[k] = d at i1 i2 i3 j1 j2 j3 q1 q2 q3 hp' Gd
      have HC := Lib.hid hcc
      have HD := Lib.hid hdd
      clear hcell hc h1 h2 h3 hcc hcell' hc' i1 i2 i3 hdd j1 j2 j3
      obtain ⟨lo, hi, wh⟩ := c
      obtain ⟨lo', hi', wh'⟩ := d
      simp only at g1 g2 g3 q1 q2 q3
      have Hb := Lib.hid hb
      clear hb
      rcases hp' with hp | hp
      all_goals
        have HP := Lib.hid hp
        clear hp
        go_wp2_with (refine (HH.out ⟨lo, hi, wh⟩ ⟨lo', hi', wh'⟩ _ Gc.out Gd.out).mono ?_; rintro e w' ⟨rfl, hb1⟩; rw [HP.out])
      · go_roundw
        case rel => exact ⟨k + 1, by omega, by go_num, below_step (Nat.le_refl _) Hb.out (by have hb := hb1; exact (by repeat (first | exact Below.refl _ _ | assumption | refine below_drewN ?_ _ | refine below_alloc (Nat.le_refl _) ?_ _ | (refine Below.setCell ?_ (by first | exact Nat.le_refl _ | (simp; done) | (simp; omega) | omega) _) | (refine below_step (Nat.le_refl _) ?_ (by assumption))))), allYet_succ hn hlt hlt' (by rw [HC.out, HD.out]; exact HP.out)⟩
        case measure => simp [intOf]; omega
      · go_ret
        exact ⟨by rw [pairs_not hlt hlt' (by rw [HC.out, HD.out]; exact HP.out)]; rfl, below_step (Nat.le_refl _) Hb.out (by have hb := hb1; exact (by repeat (first | exact Below.refl _ _ | assumption | refine below_drewN ?_ _ | refine below_alloc (Nat.le_refl _) ?_ _ | (refine Below.setCell ?_ (by first | exact Nat.le_refl _ | (simp; done) | (simp; omega) | omega) _) | (refine below_step (Nat.le_refl _) ?_ (by assumption)))))⟩
    · obtain rfl : k = cs.length := by omega
      have HP := Lib.hid (pairs_all HL.out hn)
      go_wp2
      go_ret
      exact ⟨by rw [HP.out]; rfl, hb⟩
theorem i_SameCycles (v v' : Value) (cs ds : List Cyc) (w : World) (hv : RC w v cs) (hv' : RC w v' ds) (hcs : ∀ c ∈ cs, CycWf c) (hds : ∀ d ∈ ds, CycWf d) :
    Calls Try.prog 12 #[v, v'] w fun e w' => e = .returned (.bool (pairs sameCyc cs ds)) ∧ Below w.heap.size w w' := by
  have HV := Lib.hid hv
  have HV' := Lib.hid hv'
  have HG := Lib.hid hcs
  have HG' := Lib.hid hds
  clear hv hv' hcs hds
  go_enter Try.func12, Try.ntmps12
  go_wp2_with (go_at_call 32; refine (f_EqualFunc_Cycle _ sameCyc CycWf (run_enter Try.func33 (by kernel_rfl) rfl) (fun c d W hc hd => i_SameCycles_1 c d W hc hd) _ _ cs ds _ HV.out HV'.out HG.out HG'.out).mono ?_; rintro e w' ⟨rfl, hb⟩)
  go_ret
  exact ⟨rfl, hb⟩
def neCyc (c d : Cyc) : Bool := !same32 c.lo d.lo || (!same32 c.hi d.hi || (c.wh != d.wh))
theorem neCyc_not (c d : Cyc) : sameCyc c d = !neCyc c d := by
  unfold sameCyc neCyc
  cases same32 c.lo d.lo <;> cases same32 c.hi d.hi <;> cases c.wh <;> cases d.wh <;> rfl
set_option maxHeartbeats 2000000 in
theorem s_SameCycles (v v' : Value) (cs ds : List Cyc) (w : World) (hv : RC w v cs) (hv' : RC w v' ds) (hcs : ∀ c ∈ cs, CycWf c) (hds : ∀ d ∈ ds, CycWf d) :
    Calls Try.prog 10 #[v, v'] w fun e w' => e = .returned (.bool (pairs sameCyc cs ds)) ∧ ∃ n, w' = w.drewN n := by
  obtain ⟨pp, cap, rfl, hm, hc⟩ := hv
  obtain ⟨pp', cap', rfl, hm', hc'⟩ := hv'
  have HG := Lib.hid hcs
  have HG' := Lib.hid hds
  clear hcs hds
  by_cases hl : cs.length = ds.length
  case neg =>
    have h1 := len_beq_false hl
    have HP := Lib.hid (pairs_len (p := sameCyc) hl)
    clear hl
    go_enter Try.func10, Try.ntmps10
    go_wp2_with fail
    go_ret
    exact ⟨by rw [HP.out]; rfl, 0, rfl⟩
  have h1 := len_beq_true hl
  have HL := Lib.hid hl
  clear hl
  go_enter Try.func10, Try.ntmps10
  go_wp2_with fail
  clear h1
  go_loopw [5, 13] (fun _ i wr => ∃ k n : Nat, k ≤ cs.length ∧ i = .int .i64 k ∧ wr = w.drewN n ∧ allYet sameCyc cs ds k) (fun _ i _ => cs.length - (intOf i).toNat)
  case atStart => exact ⟨0, 0, Nat.zero_le _, rfl, rfl, allYet_zero _ _ _⟩
  case round =>
    obtain ⟨k, n, hk, rfl, rfl, hn⟩ := hrel
    by_cases hlt : k < cs.length
    · have hlt' : k < ds.length := by rw [← HL.out]; exact hlt
      obtain ⟨b, off, rfl, hcell⟩ := hc.resolve_left (by omega)
      obtain ⟨b', off', rfl, hcell'⟩ := hc'.resolve_left (by omega)
      obtain ⟨h1, h2, h3⟩ := CycAt_of hcell k hlt
      obtain ⟨i1, i2, i3⟩ := CycAt_of hcell' k hlt'
      obtain ⟨Gc1, Gc2⟩ := HG.out cs[k] (List.getElem_mem hlt)
      obtain ⟨Gd1, Gd2⟩ := HG'.out ds[k] (List.getElem_mem hlt')
      generalize hcc : cs[k] = c at h1 h2 h3 Gc1 Gc2
      generalize hdd : ds[k] = d at i1 i2 i3 Gd1 Gd2
      have HC := Lib.hid hcc
      have HD := Lib.hid hdd
      clear hcell hc hcc hcell' hc' hdd
      obtain ⟨lo, hi, wh⟩ := c
      obtain ⟨lo', hi', wh'⟩ := d
      simp only at h1 h2 h3 i1 i2 i3 Gc1 Gc2 Gd1 Gd2
      cases hp1 : same32 lo lo'
      all_goals
        have P1 := Lib.hid hp1
        clear hp1
      · go_wp2_with fail
        ((refine wp_region_rq_lit (fun _ args u => ∀ x y, args = #[.float .f32 x, .float .f32 y] → u = .bool (same32 x y)) (by kernel_rfl) (by kernel_rfl) ?_); (iterate 10 (refine wpRq_det' (by kernel_rfl) (fun K hK => ?_); go_simp; refine hK _ ?_; clear hK K)); (refine wpRq_call2 (f := 30) (X := .float .f32 lo) (Y := .float .f32 lo') rfl (by kernel_rfl) rfl rfl (run_enter Try.func30 (by kernel_rfl) rfl) (fun n => (s_l01Same lo lo' _ Gc1 Gd1).mono (fun e w' ⟨he, hn⟩ => ⟨_, he, fun x y hx => by cases hx; rfl, hn⟩)) ?_; intro v hv; replace hv := hv _ _ rfl; rw [P1.out] at hv; subst hv); (iterate 2 (refine wpRq_det' (by kernel_rfl) (fun K hK => ?_); go_simp; refine hK _ ?_; clear hK K)); (iterate 12 (refine wpRq_skip (by kernel_rfl) ?_)); (refine wpRq_det' (by kernel_rfl) (fun K hK => ?_); go_simp; refine hK _ ?_; clear hK K); (refine wpRq_det' (by kernel_rfl) (fun K hK => ?_); go_simp; refine hK _ ?_; clear hK K); (iterate 10 (refine wpRq_skip (by kernel_rfl) ?_)); (refine wpRq_skip (by kernel_rfl) ?_); (refine wpRq_det' (by kernel_rfl) (fun K hK => ?_); go_simp; refine hK _ ?_; clear hK K); (refine wpRq_nil ?_); intro nq)
        go_wp2
        go_ret
        exact ⟨by rw [pairs_not hlt hlt' (by rw [HC.out, HD.out, neCyc_not]; unfold neCyc; simp only [P1.out]; rfl)]; rfl, _, World.drewN_drewN _ _ _⟩
      cases hp2 : same32 hi hi'
      all_goals
        have P2 := Lib.hid hp2
        clear hp2
      · go_wp2_with fail
        ((refine wp_region_rq_lit (fun _ args u => ∀ x y, args = #[.float .f32 x, .float .f32 y] → u = .bool (same32 x y)) (by kernel_rfl) (by kernel_rfl) ?_); (iterate 10 (refine wpRq_det' (by kernel_rfl) (fun K hK => ?_); go_simp; refine hK _ ?_; clear hK K)); (refine wpRq_call2 (f := 30) (X := .float .f32 lo) (Y := .float .f32 lo') rfl (by kernel_rfl) rfl rfl (run_enter Try.func30 (by kernel_rfl) rfl) (fun n => (s_l01Same lo lo' _ Gc1 Gd1).mono (fun e w' ⟨he, hn⟩ => ⟨_, he, fun x y hx => by cases hx; rfl, hn⟩)) ?_; intro v hv; replace hv := hv _ _ rfl; rw [P1.out] at hv; subst hv); (iterate 2 (refine wpRq_det' (by kernel_rfl) (fun K hK => ?_); go_simp; refine hK _ ?_; clear hK K)); (iterate 10 (refine wpRq_det' (by kernel_rfl) (fun K hK => ?_); go_simp; refine hK _ ?_; clear hK K)); (refine wpRq_call2 (f := 30) (X := .float .f32 hi) (Y := .float .f32 hi') rfl (by kernel_rfl) rfl rfl (run_enter Try.func30 (by kernel_rfl) rfl) (fun n => (s_l01Same hi hi' _ Gc2 Gd2).mono (fun e w' ⟨he, hn⟩ => ⟨_, he, fun x y hx => by cases hx; rfl, hn⟩)) ?_; intro v hv; replace hv := hv _ _ rfl; rw [P2.out] at hv; subst hv); (refine wpRq_det' (by kernel_rfl) (fun K hK => ?_); go_simp; refine hK _ ?_; clear hK K); (iterate 2 (refine wpRq_det' (by kernel_rfl) (fun K hK => ?_); go_simp; refine hK _ ?_; clear hK K)); (iterate 11 (refine wpRq_skip (by kernel_rfl) ?_)); (refine wpRq_det' (by kernel_rfl) (fun K hK => ?_); go_simp; refine hK _ ?_; clear hK K); (refine wpRq_nil ?_); intro nq)
        go_wp2
        go_ret
        exact ⟨by rw [pairs_not hlt hlt' (by rw [HC.out, HD.out, neCyc_not]; unfold neCyc; simp only [P1.out, P2.out]; rfl)]; rfl, _, World.drewN_drewN _ _ _⟩
      cases wh <;> cases wh'
      all_goals
        go_wp2_with fail
        ((refine wp_region_rq_lit (fun _ args u => ∀ x y, args = #[.float .f32 x, .float .f32 y] → u = .bool (same32 x y)) (by kernel_rfl) (by kernel_rfl) ?_); (iterate 10 (refine wpRq_det' (by kernel_rfl) (fun K hK => ?_); go_simp; refine hK _ ?_; clear hK K)); (refine wpRq_call2 (f := 30) (X := .float .f32 lo) (Y := .float .f32 lo') rfl (by kernel_rfl) rfl rfl (run_enter Try.func30 (by kernel_rfl) rfl) (fun n => (s_l01Same lo lo' _ Gc1 Gd1).mono (fun e w' ⟨he, hn⟩ => ⟨_, he, fun x y hx => by cases hx; rfl, hn⟩)) ?_; intro v hv; replace hv := hv _ _ rfl; rw [P1.out] at hv; subst hv); (iterate 2 (refine wpRq_det' (by kernel_rfl) (fun K hK => ?_); go_simp; refine hK _ ?_; clear hK K)); (iterate 10 (refine wpRq_det' (by kernel_rfl) (fun K hK => ?_); go_simp; refine hK _ ?_; clear hK K)); (refine wpRq_call2 (f := 30) (X := .float .f32 hi) (Y := .float .f32 hi') rfl (by kernel_rfl) rfl rfl (run_enter Try.func30 (by kernel_rfl) rfl) (fun n => (s_l01Same hi hi' _ Gc2 Gd2).mono (fun e w' ⟨he, hn⟩ => ⟨_, he, fun x y hx => by cases hx; rfl, hn⟩)) ?_; intro v hv; replace hv := hv _ _ rfl; rw [P2.out] at hv; subst hv); (refine wpRq_det' (by kernel_rfl) (fun K hK => ?_); go_simp; refine hK _ ?_; clear hK K); (iterate 2 (refine wpRq_det' (by kernel_rfl) (fun K hK => ?_); go_simp; refine hK _ ?_; clear hK K)); (iterate 11 (refine wpRq_det' (by kernel_rfl) (fun K hK => ?_); go_simp; refine hK _ ?_; clear hK K)); (refine wpRq_det' (by kernel_rfl) (fun K hK => ?_); go_simp; refine hK _ ?_; clear hK K); (refine wpRq_nil ?_); intro nq)
        go_wp2
        first
          | (go_ret; exact ⟨by rw [pairs_not hlt hlt' (by rw [HC.out, HD.out, neCyc_not]; unfold neCyc; simp only [P1.out, P2.out]; rfl)]; rfl, _, World.drewN_drewN _ _ _⟩)
          | (go_roundw
             case rel => exact ⟨k + 1, _, by omega, by go_num, rfl, allYet_succ hn hlt hlt' (by rw [HC.out, HD.out, neCyc_not]; unfold neCyc; simp only [P1.out, P2.out]; rfl)⟩
             case measure => simp [intOf]; omega)
    · obtain rfl : k = cs.length := by omega
      have HP := Lib.hid (pairs_all HL.out hn)
      go_wp2
      go_ret
      exact ⟨by rw [HP.out]; rfl, _, rfl⟩
end Go.Proofs.Ytagnblklgbhopaa
