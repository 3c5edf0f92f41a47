/- Walks: CrossingsOf of the reference. -/
import Derived.Test.YtpelhdohomjdpaaWG
namespace Go.Proofs.Ytpelhdohomjdpaa
set_option linter.unusedSimpArgs false
set_option linter.unusedVariables false
open Go.RowKit Go.Fl
set_option maxHeartbeats 1000000 in
theorem l_heldInt64SS (u : Value) (us : List Value) (xss : List (List Int)) (w : World) (hx : RII w u us (markedI xss)) (hl : us.length ≤ 1048576) (hi : ∀ xs ∈ xss, xs.length ≤ 1048576) (htot : totI xss us.length ≤ 1048576) :
    Calls Try.prog 17 #[u, .int .i64 1] w fun e w' => e = .returned (.int .i64 ((1 + totI xss us.length : Nat) : Int)) ∧ ∃ n, w' = w.drewN n := by
  obtain ⟨⟨p1, cap1, rfl, hm1, hc1⟩, hlen, hrl⟩ := hx
  have HI := Lib.hid hi
  have HLEN : Hid (us.length = xss.length) := by rw [markedI_length] at hlen; exact hlen
  have HRL := Lib.hid hrl
  have HMO := Lib.hid (totI_mono xss us.length)
  clear hi hlen hrl
  go_enter Try.func17, Try.ntmps17
  go_wp2_with fail
  go_loopw [1, 5] (fun t i wr => ∃ k n : Nat, k ≤ us.length ∧ i = .int .i64 k ∧ t = .int .i64 ((1 + totI xss k : Nat) : Int) ∧ wr = w.drewN n) (fun _ i _ => us.length - (intOf i).toNat)
  case atStart => exact ⟨0, 0, Nat.zero_le _, rfl, rfl, rfl⟩
  case round =>
    obtain ⟨k, n, hk, rfl, rfl, rfl⟩ := hrel
    by_cases hlt : k < us.length
    · have hltx : k < xss.length := by have := HLEN.out; omega
      obtain ⟨b, off, rfl, hcell⟩ := hc1.resolve_left (by omega)
      have h1 : w.cell? ⟨b, off + k, none⟩ = some us[k] := hcell k _ (by simp [hlt])
      have HT := Lib.hid (totI_succ xss k hltx)
      have HM1 := HMO.out (k + 1) (by omega)
      have HM0 := HMO.out k (by omega)
      have hil := HI.out _ (List.getElem_mem hltx)
      have hr0 := HRL.out k hlt (by rw [markedI_length]; exact hltx)
      rw [markedI_get xss k _ hltx] at hr0
      have HQ := Lib.hid (l_heldInt64S us[k] xss[k].length (1 + totI xss k) ((1 + totI xss k : Nat) : Int) rfl (w.drewN n) hr0 hil (by omega))
      obtain ⟨q1, c1, e1, -⟩ := hr0
      rw [e1] at h1 HQ
      rw [HT.out] at HM1
      rw [marksI_length] at h1 HQ
      clear hcell hc1 e1
      generalize xss[k].length = m at *
      generalize totI xss k = t0 at *
      go_wp2_with fail
      refine HQ.out.mono ?_
      rintro e w1 ⟨rfl, n1, rfl⟩
      clear HQ h1
      go_wp2
      go_roundw
      case rel => exact ⟨k + 1, _, by omega, by go_num, by rw [HT.out]; go_num, rfl⟩
      case measure => simp [intOf]; omega
    · obtain rfl : k = us.length := by omega
      go_wp2
      go_ret
      exact ⟨rfl, _, rfl⟩
theorem lowM_congr {r r' : Nat} {m : Int} {x : Nat} (h : cn .f32 r = cn .f32 r') : lowM r m x = lowM r' m x := by
  unfold lowM flt
  rw [od_congr rfl h]
theorem ge_is {a r R : Nat} {m : Int} {x : Nat} (h0 : 1 ≤ m) (h1 : m ≤ 12) (hx : fin .f32 x = true) (hr : fin .f32 R = true) (ha : cn .f32 a = multOf m x) (hR : cn .f32 r = cn .f32 R) :
    (FloatKind.f32.format.order a r == some .gt || FloatKind.f32.format.order a r == some .eq) = !lowM R m x := by
  have e : FloatKind.f32.format.order a r = FloatKind.f32.format.order (multOf m x) R := od_congr (by rw [ha]; exact (cn_fa _ _ _ _).symm) hR
  rw [e]
  exact lowM_ge h0 h1 hx hr
theorem lt_is {a r R : Nat} {m : Int} {x : Nat} (ha : cn .f32 a = multOf m x) (hR : cn .f32 r = cn .f32 R) : (FloatKind.f32.format.order a r == some .lt) = lowM R m x := by
  have e : FloatKind.f32.format.order a r = FloatKind.f32.format.order (multOf m x) R := od_congr (by rw [ha]; exact (cn_fa _ _ _ _).symm) hR
  rw [e]; rfl
theorem good_no1 {m d s : Nat} {ms : List Int} {xs : List Nat} (h : towerOk m d s = false ∨ 32 < ms.length ∨ 64 < xs.length ∨ allM ms = false ∨ finAll xs = false ∨ fin .f32 (rate m s) = false) : crossGood m d s ms xs = false := by
  unfold crossGood
  rcases h with h | h | h | h | h | h
  · rw [h]; simp
  · rw [show decide (ms.length ≤ 32) = false from decide_eq_false (by omega)]; simp
  · rw [show decide (xs.length ≤ 64) = false from decide_eq_false (by omega)]; simp
  · rw [h]; simp
  · rw [h]; simp
  · rw [h]; simp
theorem good_yes1 {m d s : Nat} {ms : List Int} {xs : List Nat} (h1 : towerOk m d s = true) (h2 : ms.length ≤ 32) (h3 : xs.length ≤ 64) (h4 : allM ms = true) (h5 : finAll xs = true) (h6 : fin .f32 (rate m s) = true) : crossGood m d s ms xs = true := by
  unfold crossGood
  rw [h1, h4, h5, h6]; simp; omega
theorem allM_no {ms : List Int} {k : Nat} (hk : k < ms.length) (h : inM ms[k] 1 12 = false) : allM ms = false := by
  unfold allM
  rw [List.all_eq_false]
  exact ⟨ms[k], List.getElem_mem hk, by rw [h]; decide⟩
theorem allM_yes {ms : List Int} (h : ∀ j (hj : j < ms.length), inM ms[j] 1 12 = true) : allM ms = true := by
  unfold allM
  rw [List.all_eq_true]
  intro x hx
  obtain ⟨j, hj, rfl⟩ := List.getElem_of_mem hx
  exact h j hj
theorem allM_get {ms : List Int} (h : allM ms = true) (j : Nat) (hj : j < ms.length) : 1 ≤ ms[j] ∧ ms[j] ≤ 12 := by
  unfold allM at h
  rw [List.all_eq_true] at h
  have := h _ (List.getElem_mem hj)
  unfold inM at this
  simpa using this
theorem finAll_no {xs : List Nat} {k : Nat} (hk : k < xs.length) (h : fin .f32 xs[k] = false) : finAll xs = false := by
  unfold finAll
  rw [List.all_eq_false]
  exact ⟨xs[k], List.getElem_mem hk, by rw [h]; decide⟩
theorem finAll_yes {xs : List Nat} (h : ∀ j (hj : j < xs.length), fin .f32 xs[j] = true) : finAll xs = true := by
  unfold finAll
  rw [List.all_eq_true]
  intro x hx
  obtain ⟨j, hj, rfl⟩ := List.getElem_of_mem hx
  exact h j hj
theorem finAll_get {xs : List Nat} (h : finAll xs = true) (j : Nat) (hj : j < xs.length) : fin .f32 xs[j] = true := by
  unfold finAll at h
  rw [List.all_eq_true] at h
  exact h _ (List.getElem_mem hj)
theorem crossRow_succ (r : Nat) (m : Int) (i : Nat) (xs : List Nat) (k : Nat) (h1 : k < xs.length) (h2 : k + 1 < xs.length) : crossRow r m i xs (k + 1) = crossRow r m i xs k ++ (if lowM r m xs[k] != lowM r m xs[k + 1] then [[(i : Int), (k : Int)]] else []) := by
  show _ ++ _ = _
  rw [List.getElem?_eq_getElem h1, List.getElem?_eq_getElem h2]; rfl
theorem crossTo_succ (r : Nat) (ms : List Int) (xs : List Nat) (i : Nat) (h : i < ms.length) : crossTo r ms xs (i + 1) = crossTo r ms xs i ++ crossRow r ms[i] i xs (xs.length - 1) := by
  show _ ++ _ = _
  rw [List.getElem?_eq_getElem h]; rfl
end Go.Proofs.Ytpelhdohomjdpaa
