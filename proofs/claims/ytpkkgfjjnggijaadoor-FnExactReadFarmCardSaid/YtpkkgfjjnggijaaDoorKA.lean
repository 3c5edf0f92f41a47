/- Walks: what a valid profile is. -/
import Derived.Test.YtpkkgfjjnggijaaDoorHD0
import Derived.Deep.QuietTactic
import Derived.BigQuiet
namespace Go.Proofs.YtpkkgfjjnggijaaDoor
set_option linter.unusedSimpArgs false
set_option linter.unusedVariables false
open Go.RowKit Go.Fl Go.Lib

/-- A profile's cells. -/
def ProfAt (w : World) (g : Nat) (va vl vd : Value) : Prop := w.cell? ⟨g, 0, none⟩ = some va ∧ w.cell? ⟨g, 1, none⟩ = some vl ∧ w.cell? ⟨g, 2, none⟩ = some vd
abbrev profV (va vl vd : Value) : Value := .agg #[va, vl, vd]
theorem ProfAt.below {w w' : World} {g : Nat} {va vl vd : Value} (h : ProfAt w g va vl vd) (hb : Below w.heap.size w w') : ProfAt w' g va vl vd := ⟨hcell_below h.1 hb, hcell_below h.2.1 hb, hcell_below h.2.2 hb⟩
theorem prof_top (w : World) (k : Nat) (hk : k = w.heap.size) (va vl vd : Value) (t : TypeId) : ProfAt (w.alloc (.cells #[va, vl, vd] t)) k va vl vd := by
  subst hk
  refine ⟨?_, ?_, ?_⟩ <;> (rw [cell_of_row _ _ _ _ t (0, 0) (heap_alloc_new w _)]; rfl)
/-- Whether the angle with an index is in its place. -/
def knotOk (a : List Nat) (i : Nat) : Bool := fromTo (a.getD i 0) 3204448256 1056964608 && !(decide (0 < i) && fle .f32 (a.getD i 0) (a.getD (i - 1) 0))
def profLen (a l d : List Nat) : Bool := decide (2 ≤ a.length) && decide (a.length ≤ 24) && decide (l.length = a.length) && decide (d.length = a.length)
def profAll (a l d : List Nat) (i : Nat) : Bool := knotOk a i && (fin .f32 (l.getD i 0) && least (d.getD i 0))
def profOk (a l d : List Nat) : Bool := profLen a l d && (List.range a.length).all (profAll a l d)
theorem range_all_false {n : Nat} {p : Nat → Bool} (k : Nat) (hk : k < n) (h : p k = false) : (List.range n).all p = false := by
  rw [List.all_eq_false]
  exact ⟨k, List.mem_range.2 hk, by rw [h]; decide⟩
theorem range_all_true {n : Nat} {p : Nat → Bool} (h : ∀ j, j < n → p j = true) : (List.range n).all p = true := by
  rw [List.all_eq_true]
  exact fun j hj => h j (List.mem_range.1 hj)
theorem profOk_no {a l d : List Nat} (k : Nat) (hk : k < a.length) (h : profAll a l d k = false) : profOk a l d = false := by
  unfold profOk; rw [range_all_false k hk h, Bool.and_false]
theorem profOk_yes {a l d : List Nat} (hl : profLen a l d = true) (h : ∀ j, j < a.length → profAll a l d j = true) : profOk a l d = true := by
  unfold profOk; rw [hl, range_all_true h]; rfl
theorem profOk_len {a l d : List Nat} (h : ¬ (2 ≤ a.length ∧ a.length ≤ 24 ∧ l.length = a.length ∧ d.length = a.length)) : profOk a l d = false := by
  have : profLen a l d = false := by
    rw [Bool.eq_false_iff]
    intro e
    unfold profLen at e
    simp only [Bool.and_eq_true, decide_eq_true_eq] at e
    exact h ⟨e.1.1.1, e.1.1.2, e.1.2, e.2⟩
  unfold profOk; rw [this]; rfl
theorem getD_at {xs : List Nat} {k : Nat} (h : k < xs.length) : xs.getD k 0 = xs[k] := by simp [List.getD_eq_getElem?_getD, h]
set_option maxRecDepth 100000 in
set_option maxHeartbeats 8000000 in
theorem s_l02Is (g : Nat) (va vl vd : Value) (a l d : List Nat) (w : World) (hp : ProfAt w g va vl vd) (ha : RF w va a) (hl : RF w vl l) (hd : RF w vd d) : Calls Tryd.prog 55 #[.pointer (some ⟨g, 0, none⟩)] w fun e' w' => e' = .returned (.bool (profOk a l d)) ∧ ∃ n, w' = w.drewN n := by
  obtain ⟨pa, ca, rfl, hma, hca⟩ := ha
  obtain ⟨pl, cl, rfl, hml, hcl⟩ := hl
  obtain ⟨pd, cd, rfl, hmd, hcd⟩ := hd
  obtain ⟨h0, h1, h2⟩ := hp
  have HCA := Lib.hid hca
  have HCL := Lib.hid hcl
  have HCD := Lib.hid hcd
  clear hca hcl hcd
  by_cases q0 : a.length < 2
  · have e0 : Hid (profOk a l d = false) := profOk_len (by omega)
    have q0' : (a.length : Int) < 2 := by omega
    go_enter Tryd.func55, Tryd.ntmps55
    go_wp2
    go_ret
    exact ⟨by rw [e0.out]; rfl, 0, rfl⟩
  have q0' : ¬ (a.length : Int) < 2 := by omega
  by_cases q1 : 24 < a.length
  · have e0 : Hid (profOk a l d = false) := profOk_len (by omega)
    have q1' : (24 : Int) < (a.length : Int) := by omega
    go_enter Tryd.func55, Tryd.ntmps55
    go_wp2
    go_ret
    exact ⟨by rw [e0.out]; rfl, 0, rfl⟩
  have q1' : ¬ (24 : Int) < (a.length : Int) := by omega
  by_cases q2 : l.length = a.length
  case neg =>
    have e0 : Hid (profOk a l d = false) := profOk_len (by omega)
    have q2' : ((l.length : Int) != (a.length : Int)) = true := by simp; omega
    go_enter Tryd.func55, Tryd.ntmps55
    go_wp2
    go_ret
    exact ⟨by rw [e0.out]; rfl, 0, rfl⟩
  by_cases q3 : d.length = a.length
  case neg =>
    have e0 : Hid (profOk a l d = false) := profOk_len (by omega)
    have q3' : ((d.length : Int) != (a.length : Int)) = true := by simp; omega
    rw [q2] at h1
    go_enter Tryd.func55, Tryd.ntmps55
    go_wp2
    go_ret
    exact ⟨by rw [e0.out]; rfl, 0, rfl⟩
  have HL : Hid (profLen a l d = true) := by show _ = _; unfold profLen; simp; omega
  rw [q2] at h1
  rw [q3] at h2
  have Q2 := Lib.hid q2
  have Q3 := Lib.hid q3
  clear q2 q3 hml hmd
  go_enter Tryd.func55, Tryd.ntmps55
  go_wp2_with fail
  go_loopw [4] (fun i wr => ∃ k n : Nat, k ≤ a.length ∧ i = .int .i64 k ∧ wr = w.drewN n ∧ ∀ j, j < k → profAll a l d j = true) (fun i _ => a.length - (RowKit.intOf i).toNat)
  case atStart => exact ⟨0, 0, Nat.zero_le _, rfl, rfl, fun j h => absurd h (Nat.not_lt_zero _)⟩
  case round =>
    obtain ⟨k, n, hk, rfl, rfl, hn⟩ := hrel
    by_cases hlt : k < a.length
    case neg =>
      have hk2 : k = a.length := by omega
      have e0 : Hid (profOk a l d = true) := profOk_yes HL.out (fun j hj => hn j (by omega))
      clear hn hk
      subst hk2
      go_wp2
      go_ret
      exact ⟨by rw [e0.out]; rfl, n, rfl⟩
    obtain ⟨ba, oa, rfl, ga⟩ := HCA.out.resolve_left (by omega)
    obtain ⟨bl, ol, rfl, gl⟩ := HCL.out.resolve_left (by have := Q2.out; omega)
    obtain ⟨bd, od, rfl, gd⟩ := HCD.out.resolve_left (by have := Q3.out; omega)
    have hlk : k < l.length := by have := Q2.out; omega
    have hdk : k < d.length := by have := Q3.out; omega
    have c0 : w.cell? ⟨ba, oa + k, none⟩ = some (.float .f32 a[k]) := ga k _ (by simp [hlt])
    have c1 : w.cell? ⟨bl, ol + k, none⟩ = some (.float .f32 l[k]) := gl k _ (by simp [hlk])
    have c2 : w.cell? ⟨bd, od + k, none⟩ = some (.float .f32 d[k]) := gd k _ (by simp [hdk])
    have HB : Hid (∀ r, profAll a l d k = r → r = false → profOk a l d = false) := fun r h1 h2 => profOk_no k hlt (h1.trans h2)
    have HP : Hid (profAll a l d k = (fromTo a[k] 3204448256 1056964608 && !(decide (0 < k) && fle .f32 a[k] (a.getD (k - 1) 0)) && (fin .f32 l[k] && least d[k]))) := by
      show _ = _
      unfold profAll knotOk
      rw [getD_at hlt, getD_at hlk, getD_at hdk]
    have HN := Lib.hid hn
    have A1 := Lib.hid (fun W => s_l01Finite l[k] W)
    have A2 := Lib.hid (fun W => s_l02Least d[k] W)
    clear hn hk ga gl gd
    generalize a[k] = x at *
    generalize l[k] = y at *
    generalize d[k] = z at *
    cases k1 : fge .f32 x 3204448256
    · have e0 : Hid (profOk a l d = false) := HB.out _ HP.out (by unfold fromTo; rw [k1]; rfl)
      unfold fge at k1
      go_wp2_with fail
      go_quiet (fail)
      go_wp2
      go_ret
      exact ⟨by rw [e0.out]; rfl, by first | exact ⟨_, rfl⟩ | (simp only [World.drewN_drewN]; exact ⟨_, rfl⟩)⟩
    cases k2 : fle .f32 x 1056964608
    · have e0 : Hid (profOk a l d = false) := HB.out _ HP.out (by unfold fromTo; rw [k1, k2]; rfl)
      unfold fge at k1
      unfold fle at k2
      go_wp2_with fail
      go_quiet (fail)
      go_wp2
      go_ret
      exact ⟨by rw [e0.out]; rfl, by first | exact ⟨_, rfl⟩ | (simp only [World.drewN_drewN]; exact ⟨_, rfl⟩)⟩
    have hft : fromTo x 3204448256 1056964608 = true := by unfold fromTo; rw [k1, k2]; rfl
    rw [hft] at HP
    clear hft
    unfold fge at k1
    unfold fle at k2
    by_cases k0 : k = 0
    · have hz : (decide (0 < k) && fle .f32 x (a.getD (k - 1) 0)) = false := by simp [k0]
      rw [hz] at HP
      have e3 : decide (0 < k) = false := by simp; omega
      clear hz
      generalize hKF : fin .f32 y = KF at *
      generalize hKL : least z = KL at *
      clear hKF hKL
      have K0 := Lib.hid k0
      clear k0
      go_wp2_with fail
      go_quiet (fail)
      cases KF
      · have e0 : Hid (profOk a l d = false) := HB.out _ HP.out (by simp only [Bool.and_false, Bool.false_and])
        go_wp2_with (first | (go_at_call 63; refine (A1.out _).mono ?_; rintro e2 w2 ⟨rfl, n2, rfl⟩) | (go_at_call 47; refine (A2.out _).mono ?_; rintro e3 w3 ⟨rfl, n3, rfl⟩))
        go_ret
        exact ⟨by rw [e0.out]; rfl, by first | exact ⟨_, rfl⟩ | (simp only [World.drewN_drewN]; exact ⟨_, rfl⟩)⟩
      cases KL
      · have e0 : Hid (profOk a l d = false) := HB.out _ HP.out (by simp only [Bool.and_false])
        go_wp2_with (first | (go_at_call 63; refine (A1.out _).mono ?_; rintro e2 w2 ⟨rfl, n2, rfl⟩) | (go_at_call 47; refine (A2.out _).mono ?_; rintro e3 w3 ⟨rfl, n3, rfl⟩))
        go_ret
        exact ⟨by rw [e0.out]; rfl, by first | exact ⟨_, rfl⟩ | (simp only [World.drewN_drewN]; exact ⟨_, rfl⟩)⟩
      go_wp2_with (first | (go_at_call 63; refine (A1.out _).mono ?_; rintro e2 w2 ⟨rfl, n2, rfl⟩) | (go_at_call 47; refine (A2.out _).mono ?_; rintro e3 w3 ⟨rfl, n3, rfl⟩))
      go_roundw
      case rel => exact ⟨k + 1, n + (nq + (n2 + n3)), by omega, by go_num, by simp only [World.drewN_drewN, Nat.add_assoc], fun j hj => by
        by_cases hjk : j < k
        · exact HN.out j hjk
        · obtain rfl : j = k := by omega
          rw [HP.out]; rfl⟩
      case measure => simp [RowKit.intOf]; omega
    · obtain ⟨m, rfl⟩ : ∃ m, k = m + 1 := ⟨k - 1, by omega⟩
      have hlm : m < a.length := by omega
      obtain ⟨ba', oa', eb, ga⟩ := HCA.out.resolve_left (by omega)
      cases eb
      have c3 : w.cell? ⟨ba, oa + m, none⟩ = some (.float .f32 a[m]) := ga m _ (by simp [hlm])
      have e4 : a.getD (m + 1 - 1) 0 = a[m] := getD_at hlm
      have e5 : decide (0 < m + 1) = true := by simp
      rw [e4, e5, Bool.true_and] at HP
      clear ga e4 e5 k0
      generalize a[m] = x' at *
      generalize hKF : fin .f32 y = KF at *
      generalize hKL : least z = KL at *
      clear hKF hKL
      cases k3 : fle .f32 x x'
      · rw [k3] at HP
        unfold fle at k3
        go_wp2_with fail
        go_quiet (fail)
        cases KF
        · have e0 : Hid (profOk a l d = false) := HB.out _ HP.out (by simp only [Bool.and_false, Bool.false_and])
          go_wp2_with (first | (go_at_call 63; refine (A1.out _).mono ?_; rintro e2 w2 ⟨rfl, n2, rfl⟩) | (go_at_call 47; refine (A2.out _).mono ?_; rintro e3 w3 ⟨rfl, n3, rfl⟩))
          go_ret
          exact ⟨by rw [e0.out]; rfl, by first | exact ⟨_, rfl⟩ | (simp only [World.drewN_drewN]; exact ⟨_, rfl⟩)⟩
        cases KL
        · have e0 : Hid (profOk a l d = false) := HB.out _ HP.out (by simp only [Bool.and_false])
          go_wp2_with (first | (go_at_call 63; refine (A1.out _).mono ?_; rintro e2 w2 ⟨rfl, n2, rfl⟩) | (go_at_call 47; refine (A2.out _).mono ?_; rintro e3 w3 ⟨rfl, n3, rfl⟩))
          go_ret
          exact ⟨by rw [e0.out]; rfl, by first | exact ⟨_, rfl⟩ | (simp only [World.drewN_drewN]; exact ⟨_, rfl⟩)⟩
        go_wp2_with (first | (go_at_call 63; refine (A1.out _).mono ?_; rintro e2 w2 ⟨rfl, n2, rfl⟩) | (go_at_call 47; refine (A2.out _).mono ?_; rintro e3 w3 ⟨rfl, n3, rfl⟩))
        go_roundw
        case rel => exact ⟨m + 1 + 1, n + (nq + (n2 + n3)), by omega, by go_num, by simp only [World.drewN_drewN, Nat.add_assoc], fun j hj => by
          by_cases hjk : j < m + 1
          · exact HN.out j hjk
          · obtain rfl : j = m + 1 := by omega
            rw [HP.out]; rfl⟩
        case measure => simp [RowKit.intOf]; omega
      · have e0 : Hid (profOk a l d = false) := HB.out _ HP.out (by rw [k3]; rfl)
        unfold fle at k3
        go_wp2_with fail
        go_quiet (fail)
        go_wp2
        go_ret
        exact ⟨by rw [e0.out]; rfl, by first | exact ⟨_, rfl⟩ | (simp only [World.drewN_drewN]; exact ⟨_, rfl⟩)⟩
end Go.Proofs.YtpkkgfjjnggijaaDoor
