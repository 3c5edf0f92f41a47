/- Walks: the library's reading of a number at base 16, 32 bits. -/
import Derived.Test.YtpkkgfjjnggijaaGreatDoorRA
import Derived.Test.YtpkkgfjjnggijaaGreatDoorSh
import Derived.Lib.ConvBytes
import Derived.Lib.AtoiErrMem
import Derived.Laws.Closers25
import Derived.Laws.Closers25b
import Derived.Lib.Walk
import Derived.Lib.Strings
import Derived.BigCall
import Derived.BigGuard
namespace Go.Proofs.YtpkkgfjjnggijaaGreatDoor
set_option linter.unusedSimpArgs false
set_option linter.unusedVariables false
open Go.RowKit Go.Fl Go.Tx Go.Lib

theorem low_or (m : Nat) (h0 : 97 ≤ m) (h1 : m ≤ 102) : bits BinOp.or .u8 (m : Int) 32 = (m : Int) := by
  rcases (show m = 97 ∨ m = 98 ∨ m = 99 ∨ m = 100 ∨ m = 101 ∨ m = 102 by omega) with rfl | rfl | rfl | rfl | rfl | rfl <;> decide
theorem dig_range {c : UInt8} {d : Nat} (h : dig c = some d) : (48 ≤ c.toNat ∧ c.toNat ≤ 57 ∧ d + 48 = c.toNat) ∨ (97 ≤ c.toNat ∧ c.toNat ≤ 102 ∧ d + 87 = c.toNat) := by
  unfold dig at h
  split at h
  · cases h; left; omega
  · split at h
    · cases h; right; omega
    · cases h
/-- Each beginning of some digits is some digits. -/
theorem numFrom_step {l : List UInt8} {n : Nat} (h : numFrom 0 l = some n) (k : Nat) (hk : k < l.length) : ∃ a d, numFrom 0 (l.take k) = some a ∧ dig l[k] = some d ∧ numFrom 0 (l.take (k + 1)) = some (16 * a + d) := by
  have e : l = l.take k ++ l[k] :: l.drop (k + 1) := by rw [List.getElem_cons_drop, List.take_append_drop]
  have h1 := h
  rw [e, numFrom_append] at h1
  cases ha : numFrom 0 (l.take k) with
  | none => rw [ha] at h1; cases h1
  | some a =>
    rw [ha] at h1
    have h2 : numFrom a (l[k] :: l.drop (k + 1)) = some n := h1
    have h3 : numFrom a (l[k] :: l.drop (k + 1)) = (match dig l[k] with | some d => numFrom (16 * a + d) (l.drop (k + 1)) | none => none) := rfl
    rw [h3] at h2
    cases hd : dig l[k] with
    | none => rw [hd] at h2; cases h2
    | some d =>
      refine ⟨a, d, rfl, rfl, ?_⟩
      rw [List.take_succ_eq_append_getElem hk, numFrom_append, ha]
      show (match dig l[k] with | some d => numFrom (16 * a + d) [] | none => none) = _
      rw [hd]
      rfl
set_option maxRecDepth 100000 in
set_option maxHeartbeats 4000000 in
theorem f_ParseUintI_ok (t : ByteArray) (n : Nat) (hs : t.size = 8) (hn : numFrom 0 t.data.toList = some n) (w : World) :
    Calls Tryz.prog 83 #[.string t, .int .i64 16, .int .i64 32] w fun e w' => e = .returned (.tuple #[.int .u64 (n : Int), .nilIface]) ∧ Below w.heap.size w w' := by
  have hemp : t.toList.isEmpty = false := by
    rw [← decide_eq_emptyBytes]
    exact decide_eq_false (fun h => by rw [h] at hs; cases hs)
  have hcv := Lib.run_convert_string_bytes (P := Tryz.prog) w 9 109 5 t Tryz.underlying9 Tryz.underlying109 Tryz.underlying5
  have hB : ∀ j, j < t.size → (Lib.bytesWorld w 5 t).cell? ⟨w.heap.size, j, none⟩ = some (.int .u8 (t.data.toList.getD j 0).toNat) := fun j hj => Lib.bytesWorld_cell w 5 t j hj
  have HB := Lib.hid (Lib.bytesWorld_below w 5 t)
  obtain ⟨W1, hW1⟩ : ∃ W1, W1 = Lib.bytesWorld w 5 t := ⟨_, rfl⟩
  rw [← hW1] at hcv hB HB
  clear hW1
  obtain ⟨bs, hL⟩ : ∃ bs, bs = t.data.toList := ⟨_, rfl⟩
  have hLn : bs.length = 8 := by rw [hL, size_list, hs]
  rw [← hL] at hB hn
  have HN := Lib.hid hn
  have HLN := Lib.hid hLn
  rw [hs] at hcv hB
  clear hL hn
  go_enter Tryz.func83, Tryz.ntmps83
  go_wp2_with fail
  go_loopw [12, 13, 101] (fun vu vn vi wr => ∃ (k acc : Nat) (a : Int), vu = .bool false ∧ vn = .int .u64 a ∧ vi = .int .i64 k ∧ k ≤ 8 ∧ wr = W1 ∧ Hid (a = (acc : Int) ∧ numFrom 0 (bs.take k) = some acc))
    (fun _ _ vi _ => 8 - (RowKit.intOf vi).toNat)
  case atStart => exact ⟨0, 0, 0, rfl, rfl, rfl, by omega, rfl, rfl, rfl⟩
  case round =>
    obtain ⟨k, acc, a, rfl, rfl, rfl, hk, rfl, hh⟩ := hrel
    obtain ⟨ha, hacc⟩ := hh.out
    clear hh
    by_cases hkn : k < 8
    · have hc := hB k hkn
      obtain ⟨a0, d, h1, h2, h3⟩ := numFrom_step HN.out k (by rw [HLN.out]; exact hkn)
      rw [hacc] at h1
      cases h1
      have hlt := (numFrom_lt _ _ _ hacc).1
      have hlen : (bs.take k).length = k := by rw [List.length_take, HLN.out]; omega
      rw [hlen] at hlt
      have hp : 16 ^ k ≤ 16 ^ 7 := Nat.pow_le_pow_right (by decide) (by omega)
      have e7 : (16 : Nat) ^ 7 = 268435456 := by decide
      have hget : bs.getD k 0 = bs[k]'(by rw [HLN.out]; exact hkn) := by simp [List.getD, List.getElem?_eq_getElem (show k < bs.length by rw [HLN.out]; exact hkn)]
      rw [hget] at hc
      have hd16 := dig_lt h2
      have hdr := dig_range h2
      have H3 := Lib.hid h3
      generalize hmm : (bs[k]'(by rw [HLN.out]; exact hkn)).toNat = m at hc hdr
      have A0 : 0 ≤ a := by omega
      have A1 : a < 268435456 := by omega
      have HNX : Hid (a * 16 + (d : Int) = ((16 * acc + d : Nat) : Int)) := by show _ = _; omega
      clear hB hget h2 h3 hp e7 hlt hlen hacc hmm ha hcv
      rcases hdr with ⟨m0, m1, m2⟩ | ⟨m0, m1, m2⟩
      · have hdm : (d : Int) = (m : Int) - 48 := by omega
        have i1 : (48 : Int) ≤ m := by omega
        have i2 : (m : Int) ≤ 57 := by omega
        go_wp2_with fail
        refine ⟨⟨k + 1, 16 * acc + d, a * 16 + ((m : Int) - 48), rfl, rfl, (by first | rfl | (congr 1; omega)), by omega, trivial, by rw [← hdm]; exact HNX.out, H3.out⟩, by simp [RowKit.intOf]; omega⟩
      · have hdm : (d : Int) = (m : Int) - 87 := by omega
        have i0 : ¬ (m : Int) = 95 := by omega
        have i2 : ¬ (m : Int) ≤ 57 := by omega
        have hlo := low_or m m0 m1
        go_wp2_with (go_at_call 101; refine (Tryz.internal_strconv_lower _ _).mono ?_; rintro e w' ⟨rfl, rfl⟩)
        refine ⟨⟨k + 1, 16 * acc + d, a * 16 + ((m : Int) - 97 + 10), rfl, rfl, (by first | rfl | (congr 1; omega)), by omega, trivial, by rw [show (m : Int) - 97 + 10 = (d : Int) by omega]; exact HNX.out, H3.out⟩, by simp [RowKit.intOf]; omega⟩
    · obtain rfl : k = 8 := by omega
      have hf : acc = n := by have h := HN.out; rw [List.take_of_length_le (by rw [HLN.out]; exact Nat.le_refl _)] at hacc; rw [hacc] at h; cases h; rfl
      have HA := Lib.hid (show a = (n : Int) by omega)
      clear hB ha hacc hf hcv
      go_wp2
      go_ret2
      exact ⟨by rw [← HA.out]; rfl, HB.out⟩
set_option maxRecDepth 100000 in
set_option maxHeartbeats 16000000 in
theorem f_ParseUintI_any (t : ByteArray) (hs : t.size ≤ 1048577) (w : World) :
    Calls Tryz.prog 83 #[.string t, .int .i64 16, .int .i64 32] w fun e w' => (∃ (m : Int) (ev : Value), e = .returned (.tuple #[.int .u64 m, ev]) ∧ 0 ≤ m ∧ m < 18446744073709551616 ∧ (ev = .nilIface ∨ ev = .iface 115 (.int .i64 2) ∨ ev = .iface 115 (.int .i64 1))) ∧ Below w.heap.size w w' := by
  by_cases h0 : t.size = 0
  · have hemp : t.toList.isEmpty = true := by
      rw [← decide_eq_emptyBytes]
      exact decide_eq_true (by apply ByteArray.ext; exact Array.eq_empty_of_size_eq_zero h0)
    go_enter Tryz.func83, Tryz.ntmps83
    go_wp2
    go_ret2
    exact ⟨⟨_, _, rfl, by decide, by decide, .inr (.inl rfl)⟩, Below.refl _ _⟩
  have hemp : t.toList.isEmpty = false := by
    rw [← decide_eq_emptyBytes]
    exact decide_eq_false (fun h => by rw [h] at h0; exact h0 rfl)
  have hcv := Lib.run_convert_string_bytes (P := Tryz.prog) w 9 109 5 t Tryz.underlying9 Tryz.underlying109 Tryz.underlying5
  have hB : ∀ j, j < t.size → (Lib.bytesWorld w 5 t).cell? ⟨w.heap.size, j, none⟩ = some (.int .u8 (t.data.toList.getD j 0).toNat) := fun j hj => Lib.bytesWorld_cell w 5 t j hj
  have HB := Lib.hid (Lib.bytesWorld_below w 5 t)
  obtain ⟨W1, hW1⟩ : ∃ W1, W1 = Lib.bytesWorld w 5 t := ⟨_, rfl⟩
  rw [← hW1] at hcv hB HB
  clear hW1
  obtain ⟨N, hN⟩ : ∃ N, N = t.size := ⟨_, rfl⟩
  rw [← hN] at hcv hB hs
  clear hN h0
  go_enter Tryz.func83, Tryz.ntmps83
  go_wp2_with fail
  go_loopw [12, 13, 101] (fun vu vn vi wr => ∃ (k : Nat) (a : Int), vu = .bool false ∧ vn = .int .u64 a ∧ vi = .int .i64 k ∧ k ≤ N ∧ wr = W1 ∧ 0 ≤ a ∧ a < 18446744073709551616)
    (fun _ _ vi _ => N - (RowKit.intOf vi).toNat)
  case atStart => exact ⟨0, 0, rfl, rfl, rfl, by omega, rfl, by decide, by decide⟩
  case round =>
    obtain ⟨k, a, rfl, rfl, rfl, hk, rfl, A0, A1⟩ := hrel
    by_cases hkn : k < N
    · have hc := hB k hkn
      have hc256 := (t.data.toList.getD k 0).toNat_lt
      generalize (t.data.toList.getD k 0).toNat = m at hc hc256
      have hv0 := bits_lo_u8 .or (m : Int) 32
      have hv1 := bits_hi_u8 .or (m : Int) 32
      have hu0 := bits_lo_u8 .or 95 32
      have hu1 := bits_hi_u8 .or 95 32
      clear hB hcv
      go_wp2_with (go_at_call 101; refine (Tryz.internal_strconv_lower _ _).mono ?_; rintro e w' ⟨rfl, rfl⟩)
      all_goals first
        | (go_ret2; refine ⟨⟨_, _, rfl, by omega, by omega, ?_⟩, HB.out⟩; simp; done)
        | (refine ⟨⟨k + 1, _, rfl, rfl, (by first | rfl | (congr 1; omega)), by omega, trivial, by omega, by omega⟩, by simp [RowKit.intOf]; omega⟩)
    · have hkn' : ¬ (k : Int) < (N : Int) := by omega
      clear hB hcv
      go_wp2
      go_ret2
      exact ⟨⟨_, _, rfl, A0, A1, .inl rfl⟩, HB.out⟩
end Go.Proofs.YtpkkgfjjnggijaaGreatDoor
