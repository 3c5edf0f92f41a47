/- Walks: the same numbers, the same profiles. -/
import Derived.Test.YtglfjanclopipaaWP
import Derived.Test.YtglfjanclopipaaDB
import Derived.Lib.QuietBelow
namespace Go.Proofs.Ytglfjanclopipaa
set_option linter.unusedSimpArgs false
set_option linter.unusedVariables false
open Go.RowKit Go.Fl Go.Lib

def sameNs (a b : List Nat) : Bool := pairs same32 a b
theorem Below_drewM {B : Nat} {a w : World} (h : Below B a w) : Below B a w.drew := below_drewN h 1
set_option maxHeartbeats 1000000 in
theorem f_EqualFunc_F (g : Nat) (p : Nat → Nat → Bool) (G : Nat → Prop) (hg : ∀ args W, (callFunc g args).run Try.prog W = .ok (.enter g args) W) (H : ∀ c d W, G c → G d → Calls Try.prog g #[.float .f32 c, .float .f32 d] W fun e w' => e = .returned (.bool (p c d)) ∧ ∃ n, w' = W.drewN n)
    (v v' : Value) (cs ds : List Nat) (w : World) (hv : RF w v cs) (hv' : RF w v' ds) (hcs : ∀ c ∈ cs, G c) (hds : ∀ d ∈ ds, G d) :
    Calls Try.prog 114 #[v, v', .func (.func g) #[] #[]] w fun e w' => e = .returned (.bool (pairs p cs ds)) ∧ ∃ n, w' = w.drewN n := by
  obtain ⟨pp, cap, rfl, hm, hc⟩ := hv
  obtain ⟨pp', cap', rfl, hm', hc'⟩ := hv'
  have HH := Lib.hid H
  have HG := Lib.hid hcs
  have HG' := Lib.hid hds
  clear H hcs hds
  by_cases hl : cs.length = ds.length
  case neg =>
    have h1 := len_beq_false hl
    have HP := Lib.hid (pairs_len (p := p) hl)
    clear hl
    go_enter Try.func114, Try.ntmps114
    go_wp2_with fail
    go_ret
    exact ⟨by rw [HP.out]; rfl, 0, rfl⟩
  have h1 := len_beq_true hl
  have HL := Lib.hid hl
  clear hl
  go_enter Try.func114, Try.ntmps114
  go_wp2_with fail
  clear h1
  go_loopw [17] (fun i wr => ∃ k n : Nat, k ≤ cs.length ∧ i = .int .i64 k ∧ wr = w.drewN n ∧ allYet p cs ds k) (fun i _ => cs.length - (intOf i).toNat)
  case atStart => exact ⟨0, 0, Nat.zero_le _, rfl, rfl, allYet_zero _ _ _⟩
  case round =>
    obtain ⟨k, n, hk, rfl, rfl, hn⟩ := hrel
    by_cases hlt : k < cs.length
    · have hlt' : k < ds.length := by rw [← HL.out]; exact hlt
      obtain ⟨b, off, rfl, hcell⟩ := hc.resolve_left (by omega)
      obtain ⟨b', off', rfl, hcell'⟩ := hc'.resolve_left (by omega)
      have h1 : w.cell? ⟨b, off + k, none⟩ = some (.float .f32 cs[k]) := hcell k _ (by simp [hlt])
      have i1 : w.cell? ⟨b', off' + k, none⟩ = some (.float .f32 ds[k]) := hcell' k _ (by simp [hlt'])
      have hp' : p cs[k] ds[k] = true ∨ p cs[k] ds[k] = false := by cases p cs[k] ds[k] <;> simp
      have Gc := Lib.hid (HG.out cs[k] (List.getElem_mem hlt))
      have Gd := Lib.hid (HG'.out ds[k] (List.getElem_mem hlt'))
      generalize hcc : cs[k] = c at h1 hp' Gc
      generalize hdd : ds[k] = d at i1 hp' Gd
      have HC := Lib.hid hcc
      have HD := Lib.hid hdd
      clear hcell hc hcc hcell' hc' hdd
      rcases hp' with hp | hp
      all_goals
        have HP := Lib.hid hp
        clear hp
        go_wp2_with (refine (HH.out c d _ Gc.out Gd.out).mono ?_; rintro e w' ⟨rfl, n1, rfl⟩; rw [HP.out])
      · go_roundw
        case rel => exact ⟨k + 1, _, by omega, by go_num, rfl, allYet_succ hn hlt hlt' (by rw [HC.out, HD.out]; exact HP.out)⟩
        case measure => simp [intOf]; omega
      · go_ret
        exact ⟨by rw [pairs_not hlt hlt' (by rw [HC.out, HD.out]; exact HP.out)]; rfl, _, rfl⟩
    · obtain rfl : k = cs.length := by omega
      have HP := Lib.hid (pairs_all HL.out hn)
      go_wp2
      go_ret
      exact ⟨by rw [HP.out]; rfl, _, rfl⟩
theorem i_sameNumbers (v v' : Value) (cs ds : List Nat) (w : World) (hv : RF w v cs) (hv' : RF w v' ds) (hcs : Bd cs) (hds : Bd ds) :
    Calls Try.prog 68 #[v, v'] w fun e w' => e = .returned (.bool (sameNs cs ds)) ∧ ∃ n, w' = w.drewN n := by
  have H := Lib.hid (f_EqualFunc_F _ same32 (· < 4294967296) (run_enter Try.func64 (by kernel_rfl) rfl) (fun c d W hc hd => i_SameNumber c d W hc hd) v v' cs ds w hv hv' hcs hds)
  clear hv hv' hcs hds
  go_enter Try.func68, Try.ntmps68
  go_wp2_with (go_at_call 114; refine H.out.mono ?_; rintro e w' ⟨rfl, n, rfl⟩)
  go_ret
  exact ⟨rfl, _, rfl⟩
set_option maxHeartbeats 1000000 in
theorem s_l01SameAll (v v' : Value) (cs ds : List Nat) (w : World) (hv : RF w v cs) (hv' : RF w v' ds) (hcs : Bd cs) (hds : Bd ds) :
    Calls Try.prog 58 #[v, v'] w fun e w' => e = .returned (.bool (sameNs cs ds)) ∧ ∃ n, w' = w.drewN n := by
  obtain ⟨pp, cap, rfl, hm, hc⟩ := hv
  obtain ⟨pp', cap', rfl, hm', hc'⟩ := hv'
  have HG := Lib.hid hcs
  have HG' := Lib.hid hds
  have HH := Lib.hid (fun x y W hx hy => s_l01Same x y W hx hy)
  clear hcs hds
  unfold sameNs
  by_cases hl : cs.length = ds.length
  case neg =>
    have h1 := len_beq_false hl
    have HP := Lib.hid (pairs_len (p := same32) hl)
    clear hl
    go_enter Try.func58, Try.ntmps58
    go_wp2_with fail
    go_ret
    exact ⟨by rw [HP.out]; rfl, 0, rfl⟩
  have h1 := len_beq_true hl
  have HL := Lib.hid hl
  clear hl
  go_enter Try.func58, Try.ntmps58
  go_wp2_with fail
  clear h1
  go_loopw [5] (fun i wr => ∃ k : Nat, k ≤ cs.length ∧ i = .int .i64 k ∧ Hid (∃ n, wr = w.drewN n) ∧ allYet same32 cs ds k) (fun i _ => cs.length - (intOf i).toNat)
  case atStart => exact ⟨0, Nat.zero_le _, rfl, ⟨0, rfl⟩, allYet_zero _ _ _⟩
  case round =>
    obtain ⟨k, hk, rfl, hq, hn⟩ := hrel
    by_cases hlt : k < cs.length
    · have hlt' : k < ds.length := by rw [← HL.out]; exact hlt
      obtain ⟨b, off, rfl, hcell⟩ := hc.resolve_left (by omega)
      obtain ⟨b', off', rfl, hcell'⟩ := hc'.resolve_left (by omega)
      have h1 : wr.cell? ⟨b, off + k, none⟩ = some (.float .f32 cs[k]) := by obtain ⟨n, rfl⟩ := hq.out; exact hcell k _ (by simp [hlt])
      have i1 : wr.cell? ⟨b', off' + k, none⟩ = some (.float .f32 ds[k]) := by obtain ⟨n, rfl⟩ := hq.out; exact hcell' k _ (by simp [hlt'])
      have Gc := HG.out cs[k] (List.getElem_mem hlt)
      have Gd := HG'.out ds[k] (List.getElem_mem hlt')
      generalize hcc : cs[k] = c at h1 Gc
      generalize hdd : ds[k] = d at i1 Gd
      have HC := Lib.hid hcc
      have HD := Lib.hid hdd
      clear hcell hc hcc hcell' hc' hdd
      have HX := Lib.hid (fun W => HH.out c d W Gc Gd)
      generalize hp : same32 c d = K at HX
      cases K
      all_goals
        have HP := Lib.hid hp
        clear hp
        go_wp2_with fail
        go_quiet ((go_at_call 56; with_reducible exact Calls.quiet_of (HX.out _)))
        go_wp2
      · go_ret
        exact ⟨by rw [pairs_not hlt hlt' (by rw [HC.out, HD.out]; exact HP.out)]; rfl, by obtain ⟨n, rfl⟩ := hq.out; exact ⟨_, World.drewN_drewN _ _ _⟩⟩
      · go_roundw
        case rel => exact ⟨k + 1, by omega, by go_num, by obtain ⟨n, rfl⟩ := hq.out; exact ⟨_, World.drewN_drewN _ _ _⟩, allYet_succ hn hlt hlt' (by rw [HC.out, HD.out]; exact HP.out)⟩
        case measure => simp [intOf]; omega
    · obtain rfl : k = cs.length := by omega
      have HP := Lib.hid (pairs_all HL.out hn)
      go_wp2
      go_ret
      exact ⟨by rw [HP.out]; rfl, hq.out⟩
end Go.Proofs.Ytglfjanclopipaa
