/- Walks: what a valid profile is, the other's. -/
import Derived.Test.YtpkkgfjjnggijaaDoorKA
namespace Go.Proofs.YtpkkgfjjnggijaaDoor
set_option linter.unusedSimpArgs false
set_option linter.unusedVariables false
open Go.RowKit Go.Fl Go.Lib

theorem cmp_swapT (a b : Int) : compare b a = (compare a b).swap := by
  simp only [compare, compareOfLessAndEq]
  split
  · rename_i h
    rw [if_neg (by omega), if_neg (by omega)]; rfl
  · split
    · rename_i h1 h2
      rw [if_neg (by omega), if_pos h2.symm]; rfl
    · rw [if_pos (by omega)]; rfl
theorem order_swapT (k : FloatKind) (x y : Nat) : k.format.order y x = (k.format.order x y).map Ordering.swap := by
  unfold Ieee.Format.order
  cases h1 : k.format.read x <;> cases h2 : k.format.read y <;> simp only [Ieee.Datum.order, Option.map_some, Option.map_none]
  · rename_i s m i t n j
    rw [show min j i = min i j from Int.min_comm ..]
    rw [cmp_swapT]
  · rename_i s; cases s <;> rfl
  · rename_i s _ _ _; cases s <;> rfl
  · rename_i s t; cases s <;> cases t <;> rfl
theorem fge_swapT (k : FloatKind) (x y : Nat) : fge k x y = fle k y x := by
  unfold fge fle
  rw [order_swapT k x y]
  cases k.format.order x y with
  | none => rfl
  | some o => cases o <;> rfl
def leastAll (xs : List Nat) : Bool := xs.all least
theorem range_all_get {n : Nat} {xs : List Nat} (h : xs.length = n) (p : Nat → Bool) : (List.range n).all (fun i => p (xs.getD i 0)) = xs.all p := by
  subst h
  rw [Bool.eq_iff_iff, List.all_eq_true, List.all_eq_true]
  constructor
  · intro h x hx
    obtain ⟨i, hi, rfl⟩ := List.mem_iff_getElem.1 hx
    have := h i (List.mem_range.2 hi)
    rw [getD_at hi] at this
    exact this
  · intro h i hi
    have hi := List.mem_range.1 hi
    rw [getD_at hi]
    exact h _ (List.getElem_mem hi)
theorem all_and {α : Type} (p q : α → Bool) (xs : List α) : xs.all (fun x => p x && q x) = (xs.all p && xs.all q) := by
  induction xs with
  | nil => rfl
  | cons x r ih => simp only [List.all_cons, ih]; cases p x <;> cases q x <;> cases r.all p <;> rfl
theorem profOk_parts {a l d : List Nat} (hl : profLen a l d = true) : profOk a l d = (finAll l && leastAll d && (List.range a.length).all (knotOk a)) := by
  unfold profOk
  rw [hl, Bool.true_and]
  unfold profLen at hl
  simp only [Bool.and_eq_true, decide_eq_true_eq] at hl
  rw [show profAll a l d = fun i => knotOk a i && ((fun i => fin .f32 (l.getD i 0)) i && (fun i => least (d.getD i 0)) i) from rfl, all_and]
  rw [all_and, range_all_get hl.1.2, range_all_get hl.2]
  unfold finAll leastAll
  cases (List.range a.length).all (knotOk a) <;> cases l.all (fin .f32) <;> cases d.all least <;> rfl
theorem i_areLeast_1 (x : Nat) (w : World) : Calls Tryd.prog 74 #[.float .f32 x] w fun e w' => e = .returned (.bool (!least x)) ∧ ∃ n, w' = w.drewN n := by
  go_enter Tryd.func74, Tryd.ntmps74
  go_wp2_with (go_at_call 36; refine (i_isLeast _ _).mono ?_; rintro e w' ⟨rfl, n, rfl⟩)
  go_ret
  exact ⟨rfl, n, rfl⟩
theorem i_areLeast (v : Value) (xs : List Nat) (w : World) (hv : RF w v xs) : Calls Tryd.prog 58 #[v] w fun e w' => e = .returned (.bool (leastAll xs)) ∧ ∃ n, w' = w.drewN n := by
  have hb : (!xs.any (fun x => !least x)) = leastAll xs := by simp [leastAll, List.any_eq_not_all_not]
  go_enter Tryd.func58, Tryd.ntmps58
  go_wp2_with (go_at_call 52; refine (f_ContainsFunc_f32 _ (fun x => !least x) (run_enter Tryd.func74 (by kernel_rfl) rfl) i_areLeast_1 v xs _ hv).mono ?_; rintro e w' ⟨rfl, n, rfl⟩)
  go_ret
  exact ⟨by first | rfl | simp [← hb], n, rfl⟩
set_option maxRecDepth 100000 in
set_option maxHeartbeats 8000000 in
theorem i_ValidProfile (va vl vd : Value) (a l d : List Nat) (w : World) (ha : RF w va a) (hl : RF w vl l) (hd : RF w vd d) : Calls Tryd.prog 41 #[profV va vl vd] w fun e' w' => e' = .returned (.bool (profOk a l d)) ∧ Below w.heap.size w w' := by
  have HLF := Lib.hid (fun W (h : RF W vl l) => i_areFinite vl l W h)
  have HDL := Lib.hid (fun W (h : RF W vd d) => i_areLeast vd d W h)
  have HLX := Lib.hid hl
  have HDX := Lib.hid hd
  obtain ⟨pa, ca, rfl, hma, hca⟩ := ha
  obtain ⟨pl, cl, rfl, hml, hcl⟩ := hl
  obtain ⟨pd, cd, rfl, hmd, hcd⟩ := hd
  have HCA := Lib.hid hca
  clear hca hcl hcd
  by_cases q0 : a.length < 2
  · have e0 : Hid (profOk a l d = false) := profOk_len (by omega)
    have q0' : (a.length : Int) < 2 := by omega
    go_enter Tryd.func41, Tryd.ntmps41
    go_wp2
    go_ret
    exact ⟨by rw [e0.out]; rfl, (by repeat (first | exact Below.refl _ _ | assumption | refine below_drewN ?_ _ | refine below_alloc (Nat.le_refl _) ?_ _ | (refine Below.setCell ?_ (by first | exact Nat.le_refl _ | (simp; done) | (simp; omega) | omega) _) | (refine below_step (Nat.le_refl _) ?_ (by assumption))))⟩
  have q0' : ¬ (a.length : Int) < 2 := by omega
  by_cases q1 : 24 < a.length
  · have e0 : Hid (profOk a l d = false) := profOk_len (by omega)
    have q1' : (24 : Int) < (a.length : Int) := by omega
    go_enter Tryd.func41, Tryd.ntmps41
    go_wp2
    go_ret
    exact ⟨by rw [e0.out]; rfl, (by repeat (first | exact Below.refl _ _ | assumption | refine below_drewN ?_ _ | refine below_alloc (Nat.le_refl _) ?_ _ | (refine Below.setCell ?_ (by first | exact Nat.le_refl _ | (simp; done) | (simp; omega) | omega) _) | (refine below_step (Nat.le_refl _) ?_ (by assumption))))⟩
  have q1' : ¬ (24 : Int) < (a.length : Int) := by omega
  by_cases q2 : l.length = a.length
  case neg =>
    have e0 : Hid (profOk a l d = false) := profOk_len (by omega)
    have q2' : ((l.length : Int) != (a.length : Int)) = true := by simp; omega
    go_enter Tryd.func41, Tryd.ntmps41
    go_wp2
    go_ret
    exact ⟨by rw [e0.out]; rfl, (by repeat (first | exact Below.refl _ _ | assumption | refine below_drewN ?_ _ | refine below_alloc (Nat.le_refl _) ?_ _ | (refine Below.setCell ?_ (by first | exact Nat.le_refl _ | (simp; done) | (simp; omega) | omega) _) | (refine below_step (Nat.le_refl _) ?_ (by assumption))))⟩
  by_cases q3 : d.length = a.length
  case neg =>
    have e0 : Hid (profOk a l d = false) := profOk_len (by omega)
    have q3' : ((d.length : Int) != (a.length : Int)) = true := by simp; omega
    have q2' : ((l.length : Int) != (a.length : Int)) = false := by simp; omega
    go_enter Tryd.func41, Tryd.ntmps41
    go_wp2
    go_ret
    exact ⟨by rw [e0.out]; rfl, (by repeat (first | exact Below.refl _ _ | assumption | refine below_drewN ?_ _ | refine below_alloc (Nat.le_refl _) ?_ _ | (refine Below.setCell ?_ (by first | exact Nat.le_refl _ | (simp; done) | (simp; omega) | omega) _) | (refine below_step (Nat.le_refl _) ?_ (by assumption))))⟩
  have HP : Hid (profOk a l d = (finAll l && leastAll d && (List.range a.length).all (knotOk a))) := profOk_parts (by unfold profLen; simp; omega)
  have q2' : ((l.length : Int) != (a.length : Int)) = false := by simp; omega
  have q3' : ((d.length : Int) != (a.length : Int)) = false := by simp; omega
  clear q2 q3 hml hmd
  generalize finAll l = KF at *
  generalize leastAll d = KD at *
  cases KF
  · have e0 : Hid (profOk a l d = false) := by show _ = _; rw [HP.out]; rfl
    go_enter Tryd.func41, Tryd.ntmps41
    go_wp2_with (first | (go_at_call 57; refine (HLF.out _ (RF.alloc HLX.out _)).mono ?_; rintro e2 w2 ⟨rfl, n2, rfl⟩))
    go_ret
    exact ⟨by rw [e0.out]; rfl, (by repeat (first | exact Below.refl _ _ | assumption | refine below_drewN ?_ _ | refine below_alloc (Nat.le_refl _) ?_ _ | (refine Below.setCell ?_ (by first | exact Nat.le_refl _ | (simp; done) | (simp; omega) | omega) _) | (refine below_step (Nat.le_refl _) ?_ (by assumption))))⟩
  cases KD
  · have e0 : Hid (profOk a l d = false) := by show _ = _; rw [HP.out]; rfl
    go_enter Tryd.func41, Tryd.ntmps41
    go_wp2_with (first | (go_at_call 57; refine (HLF.out _ (RF.alloc HLX.out _)).mono ?_; rintro e2 w2 ⟨rfl, n2, rfl⟩) | (go_at_call 58; refine (HDL.out _ ((RF.alloc HDX.out _).drewN _)).mono ?_; rintro e3 w3 ⟨rfl, n3, rfl⟩))
    go_ret
    exact ⟨by rw [e0.out]; rfl, (by repeat (first | exact Below.refl _ _ | assumption | refine below_drewN ?_ _ | refine below_alloc (Nat.le_refl _) ?_ _ | (refine Below.setCell ?_ (by first | exact Nat.le_refl _ | (simp; done) | (simp; omega) | omega) _) | (refine below_step (Nat.le_refl _) ?_ (by assumption))))⟩
  go_enter Tryd.func41, Tryd.ntmps41
  go_wp2_with (first | (go_at_call 57; refine (HLF.out _ (RF.alloc HLX.out _)).mono ?_; rintro e2 w2 ⟨rfl, n2, rfl⟩) | (go_at_call 58; refine (HDL.out _ ((RF.alloc HDX.out _).drewN _)).mono ?_; rintro e3 w3 ⟨rfl, n3, rfl⟩))
  have hbx : Hid (Below w.heap.size w (w.alloc (.cells #[.slice pa a.length ca, .slice pl l.length cl, .slice pd d.length cd] 31))) := below_alloc (Nat.le_refl _) (Below.refl _ _) _
  obtain ⟨c0, -, -⟩ := prof_top w _ rfl (.slice pa a.length ca) (.slice pl l.length cl) (.slice pd d.length cd) 31
  generalize hw1 : w.alloc (.cells #[.slice pa a.length ca, .slice pl l.length cl, .slice pd d.length cd] 31) = w1 at *
  clear hw1
  have HOK : Hid (∀ b, (List.range a.length).all (knotOk a) = b → profOk a l d = b) := fun b hb => by rw [HP.out, hb]; rfl
  have HW : Hid (∀ m, Below w.heap.size w (w1.drewN m)) := fun m => below_drewN hbx.out m
  clear HP HLX HDX HLF HDL
  go_loopw [4, 5, 44] (fun _ _ i wr => ∃ k n : Nat, k ≤ a.length ∧ i = .int .i64 k ∧ wr = w1.drewN n ∧ ∀ j, j < k → knotOk a j = true) (fun _ _ i _ => a.length - (RowKit.intOf i).toNat)
  case atStart => exact ⟨0, n2 + n3, Nat.zero_le _, rfl, by simp only [World.drewN_drewN], fun j h => absurd h (Nat.not_lt_zero _)⟩
  case round =>
    obtain ⟨k, n, hk, rfl, rfl, hn⟩ := hrel
    by_cases hlt : k < a.length
    case neg =>
      have hk2 : k = a.length := by omega
      have e0 : Hid (profOk a l d = true) := HOK.out _ (range_all_true (fun j hj => hn j (by omega)))
      clear hn hk
      subst hk2
      go_wp2
      go_ret
      exact ⟨by rw [e0.out]; rfl, HW.out _⟩
    obtain ⟨ba, oa, rfl, ga⟩ := HCA.out.resolve_left (by omega)
    have c3 : w.cell? ⟨ba, oa + k, none⟩ = some (.float .f32 a[k]) := ga k _ (by simp [hlt])
    have c4 : w1.cell? ⟨ba, oa + k, none⟩ = some (.float .f32 a[k]) := hcell_below c3 (hbx.out)
    have HB : Hid (∀ r, knotOk a k = r → r = false → profOk a l d = false) := fun r h1 h2 => HOK.out _ (range_all_false k hlt (h1.trans h2))
    have HPK : Hid (knotOk a k = (fromTo a[k] 3204448256 1056964608 && !(decide (0 < k) && fle .f32 a[k] (a.getD (k - 1) 0)))) := by
      show _ = _
      unfold knotOk
      rw [getD_at hlt]
    have HN := Lib.hid hn
    have A1 := Lib.hid (fun W => i_isFromTo a[k] 3204448256 1056964608 W)
    clear hn hk ga c3
    generalize a[k] = x at *
    generalize fromTo x 3204448256 1056964608 = KT at *
    cases KT
    · have e0 : Hid (profOk a l d = false) := HB.out _ HPK.out rfl
      go_wp2_with (go_at_call 37; refine (A1.out _).mono ?_; rintro e2 w2 ⟨rfl, m2, rfl⟩)
      go_ret
      exact ⟨by rw [e0.out]; rfl, by first | exact HW.out _ | (simp only [World.drewN_drewN]; exact HW.out _)⟩
    by_cases k0 : k = 0
    · have hz : (decide (0 < k) && fle .f32 x (a.getD (k - 1) 0)) = false := by simp [k0]
      rw [hz] at HPK
      have e3 : decide (0 < k) = false := by simp; omega
      clear hz
      have K0 := Lib.hid k0
      have k0' : ¬ (0 : Int) < (k : Int) := by omega
      clear k0
      go_wp2_with (go_at_call 37; refine (A1.out _).mono ?_; rintro e2 w2 ⟨rfl, m2, rfl⟩)
      go_roundw
      case rel => exact ⟨k + 1, n + m2, by omega, by go_num, by simp only [World.drewN_drewN], fun j hj => by
        by_cases hjk : j < k
        · exact HN.out j hjk
        · obtain rfl : j = k := by omega
          rw [HPK.out]; rfl⟩
      case measure => simp [RowKit.intOf]; omega
    · obtain ⟨m, rfl⟩ : ∃ m, k = m + 1 := ⟨k - 1, by omega⟩
      have hlm : m < a.length := by omega
      obtain ⟨ba', oa', eb, ga⟩ := HCA.out.resolve_left (by omega)
      cases eb
      have c5 : w.cell? ⟨ba, oa + m, none⟩ = some (.float .f32 a[m]) := ga m _ (by simp [hlm])
      have c6 : w1.cell? ⟨ba, oa + m, none⟩ = some (.float .f32 a[m]) := hcell_below c5 hbx.out
      have e4 : a.getD (m + 1 - 1) 0 = a[m] := getD_at hlm
      have e5 : decide (0 < m + 1) = true := by simp
      rw [e4, e5, Bool.true_and, ← fge_swapT] at HPK
      clear ga e4 e5 k0 c5
      generalize a[m] = x' at *
      cases k3 : fge .f32 x' x
      · rw [k3] at HPK
        unfold fge at k3
        go_wp2_with (go_at_call 37; refine (A1.out _).mono ?_; rintro e2 w2 ⟨rfl, m2, rfl⟩)
        go_roundw
        case rel => exact ⟨m + 1 + 1, n + m2, by omega, by go_num, by simp only [World.drewN_drewN], fun j hj => by
          by_cases hjk : j < m + 1
          · exact HN.out j hjk
          · obtain rfl : j = m + 1 := by omega
            rw [HPK.out]; rfl⟩
        case measure => simp [RowKit.intOf]; omega
      · have e0 : Hid (profOk a l d = false) := HB.out _ HPK.out (by rw [k3]; rfl)
        unfold fge at k3
        go_wp2_with (go_at_call 37; refine (A1.out _).mono ?_; rintro e2 w2 ⟨rfl, m2, rfl⟩)
        go_ret
        exact ⟨by rw [e0.out]; rfl, by first | exact HW.out _ | (simp only [World.drewN_drewN]; exact HW.out _)⟩
end Go.Proofs.YtpkkgfjjnggijaaDoor
