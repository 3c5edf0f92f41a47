/- Hexadecimal digits: plain laws; the library's digits of base 16. -/
import Derived.Test.YtpkkgfjjnggijaaGreatDoorSh
import Derived.Test.YtpkkgfjjnggijaaGreatDoorTB
import Derived.Test.YtpkkgfjjnggijaaGreatDoorA
import Derived.Lib.TrailingZeros
import Derived.Laws.Bits64
import Derived.Laws.BitsLemmas
import Derived.Lib.LaidTab
import Derived.Lib.AppendIntMem
namespace Go.Proofs.YtpkkgfjjnggijaaGreatDoor
set_option linter.unusedSimpArgs false
set_option linter.unusedVariables false
open Go.RowKit Go.Fl

def hexDig (d : Nat) : UInt8 := UInt8.ofNat (if d < 10 then 48 + d else 87 + d)
/-- The low k digits. -/
def hexLow (n : Nat) : Nat → List UInt8
  | 0 => []
  | k + 1 => hexDig (n / 16 ^ k % 16) :: hexLow n k
theorem hexLow_length (n : Nat) : ∀ k, (hexLow n k).length = k
  | 0 => rfl
  | k + 1 => by simp [hexLow, hexLow_length n k]
theorem hexLow_get (n : Nat) : ∀ k j, j < k → (hexLow n k)[k - 1 - j]? = some (hexDig (n / 16 ^ j % 16))
  | 0, j, h => by omega
  | k + 1, j, h => by
    by_cases e : j = k
    · subst e; simp [hexLow]
    · have h1 := hexLow_get n k j (by omega)
      rw [show k + 1 - 1 - j = (k - 1 - j) + 1 by omega]
      simpa [hexLow] using h1
/-- The 8 hexadecimal digits. -/
def hex8 (n : Nat) : List UInt8 := hexLow n 8
theorem hexLow_pad (n k : Nat) (h : n / 16 ^ k = 0) : ∀ d, hexLow n (k + d) = List.replicate d 48 ++ hexLow n k
  | 0 => rfl
  | d + 1 => by
    have e : n / 16 ^ (k + d) = 0 := by rw [Nat.pow_add, ← Nat.div_div_eq_div_mul, h, Nat.zero_div]
    show hexDig (n / 16 ^ (k + d) % 16) :: hexLow n (k + d) = _
    rw [e, hexLow_pad n k h d, List.replicate_succ]
    rfl
def hexB (x : Nat) : ByteArray := ⟨(hex8 (cn .f32 x)).toArray⟩
theorem hex8_size (n : Nat) : (hex8 n).length = 8 := hexLow_length n 8
/-- How many digits a number has: the least j for which n / 16^j is less than 16. -/
def T64 (w : World) : Prop := Lib.TabIs Tryz.prog w "math/bits.deBruijn64tab" .u8 (Lib.deBruijn64tab.map (Int.ofNat ·))
theorem T64_below {w w' : World} (h : T64 w) (hb : Below w.heap.size w w') : T64 w' := (Lib.tabBelow_of_tabIs h).on hb |>.here
def hexTab : ByteArray := ⟨#[48, 49, 50, 51, 52, 53, 54, 55, 56, 57, 97, 98, 99, 100, 101, 102, 103, 104, 105, 106, 107, 108, 109, 110, 111, 112, 113, 114, 115, 116, 117, 118, 119, 120, 121, 122]⟩
theorem hexTab_at : ∀ d, d < 16 → hexTab.data.toList[d]? = some (hexDig d) := by decide
theorem tab_at (d : Nat) (h : d < 16) (h2 : d < ByteArray.size ⟨#[48, 49, 50, 51, 52, 53, 54, 55, 56, 57, 97, 98, 99, 100, 101, 102, 103, 104, 105, 106, 107, 108, 109, 110, 111, 112, 113, 114, 115, 116, 117, 118, 119, 120, 121, 122]⟩) :
    (⟨#[48, 49, 50, 51, 52, 53, 54, 55, 56, 57, 97, 98, 99, 100, 101, 102, 103, 104, 105, 106, 107, 108, 109, 110, 111, 112, 113, 114, 115, 116, 117, 118, 119, 120, 121, 122]⟩ : ByteArray)[d]'h2 = hexDig d := by
  have H : ∀ (d : Fin 16) (h2 : d.val < ByteArray.size ⟨#[48, 49, 50, 51, 52, 53, 54, 55, 56, 57, 97, 98, 99, 100, 101, 102, 103, 104, 105, 106, 107, 108, 109, 110, 111, 112, 113, 114, 115, 116, 117, 118, 119, 120, 121, 122]⟩),
    (⟨#[48, 49, 50, 51, 52, 53, 54, 55, 56, 57, 97, 98, 99, 100, 101, 102, 103, 104, 105, 106, 107, 108, 109, 110, 111, 112, 113, 114, 115, 116, 117, 118, 119, 120, 121, 122]⟩ : ByteArray)[d.val]'h2 = hexDig d.val := by decide
  exact H ⟨d, h⟩ h2
theorem w63 (k : IntKind) (hk : k = .u64 ∨ k = .i64) (n : Int) (h0 : 0 ≤ n) (h1 : n < 2 ^ 63) : k.wrap n = n := by
  have e63 : (2 : Int) ^ 63 = 9223372036854775808 := by decide
  rw [e63] at h1
  rcases hk with rfl | rfl
  · rw [IntKind.wrap_u64]; omega
  · rw [IntKind.wrap_i64]; omega
theorem and15 (k : IntKind) (hk : k = .u64 ∨ k = .i64) (u : Nat) (hu : u < 9223372036854775808) : bits BinOp.and k (u : Int) 15 = ((u % 16 : Nat) : Int) := by
  rcases hk with rfl | rfl
  · have h := bits_mask .u64 63 (by decide) (w63 .u64 (.inl rfl)) 4 (by decide) (u : Int) (by omega) (by omega)
    have e : ((2 : Int) ^ 4 - 1) = 15 := by decide
    have e2 : ((2 : Int) ^ 4) = 16 := by decide
    rw [e, e2] at h
    rw [h]
    omega
  · have h := bits_mask .i64 63 (by decide) (w63 .i64 (.inr rfl)) 4 (by decide) (u : Int) (by omega) (by omega)
    have e : ((2 : Int) ^ 4 - 1) = 15 := by decide
    have e2 : ((2 : Int) ^ 4) = 16 := by decide
    rw [e, e2] at h
    rw [h]
    omega
theorem f_TrailingZeros64 (w : World) (h : T64 w) : Calls Tryz.prog 135 #[.int .u64 16] w fun e w' => e = .returned (.int .i64 4) ∧ w' = w := by
  have hc : w.cell? ⟨8, 15, none⟩ = some (.int .u8 4) := h.cell (g := 8) (by kernel_rfl) 15 (by decide)
  have e1 : IntKind.u64.wrap (bits BinOp.and IntKind.u64 16 (IntKind.u64.wrap (-16)) * 285870213051353865) / 288230376151711744 = 15 := by decide
  go_enter Tryz.func135, Tryz.ntmps135
  go_wp2
  go_ret
  exact ⟨rfl, rfl⟩
theorem f_TrailingZeros (w : World) (h : T64 w) : Calls Tryz.prog 131 #[.int .u64 16] w fun e w' => e = .returned (.int .i64 4) ∧ w' = w := by
  go_enter Tryz.func131, Tryz.ntmps131
  go_wp2_with (go_at_call 135; refine (f_TrailingZeros64 _ h).mono ?_; rintro e w' ⟨rfl, rfl⟩)
  go_ret
  exact ⟨rfl, rfl⟩
theorem f_isPowerOfTwo (w : World) : Calls Tryz.prog 130 #[.int .i64 16] w fun e w' => e = .returned (.bool true) ∧ w' = w := by
  have e1 : (bits BinOp.and IntKind.i64 16 15 == 0) = true := by decide
  go_enter Tryz.func130, Tryz.ntmps130
  go_wp2
  go_ret
  exact ⟨by first | rfl | simp [e1], rfl⟩
set_option maxRecDepth 100000 in
set_option maxHeartbeats 4000000 in
theorem f_formatBits (n : Nat) (hn : n < 4294967296) (w : World) (h : T64 w) : Calls Tryz.prog 115 #[.slice none 0 0, .int .u64 (n : Int), .int .i64 16, .bool false, .bool false] w fun e w' =>
    ∃ k, k < 8 ∧ n / 16 ^ k < 16 ∧ e = .returned (.tuple #[.slice none 0 0, .string ⟨(hexLow n (k + 1)).toArray⟩]) ∧ Below w.heap.size w w' := by
  have HT := Lib.hid h
  have HNN := Lib.hid hn
  clear h
  go_enter Tryz.func115, Tryz.ntmps115
  go_wp2_with (first | (go_at_call 130; refine (f_isPowerOfTwo _).mono ?_; rintro e w' ⟨rfl, rfl⟩) | (go_at_call 131; refine (f_TrailingZeros _ (T64_below HT.out (below_alloc (Nat.le_refl _) (Below.refl _ _) _))).mono ?_; rintro e w' ⟨rfl, rfl⟩))
  obtain ⟨wz, hwz⟩ : ∃ wz, wz = w.alloc (.cells Tryz.zeroCells162 162) := ⟨_, rfl⟩
  have HZ : Hid (wz.heap[w.heap.size]? = some (.cells Tryz.zeroCells162 162 (0, 0)) ∧ (Tryz.zeroCells162).size = 65 ∧ Below w.heap.size w wz) := by
    rw [hwz]
    exact ⟨heap_alloc_new w _, by kernel_rfl, below_alloc (Nat.le_refl _) (Below.refl _ _) _⟩
  rw [← hwz]
  clear hwz
  generalize Tryz.zeroCells162 = z0 at *
  generalize hB0 : w.heap.size = B at *
  have HB0 := Lib.hid hB0
  clear hB0
  go_loopw [1, 13] (fun u i wr => ∃ (k : Nat) (cur : Array Value), k < 8 ∧ u = .int .u64 ((n / 16 ^ k : Nat) : Int) ∧ i = .int .i64 ((65 - k : Nat) : Int) ∧ wr.heap[B]? = some (.cells cur 162 (0, 0)) ∧ cur.size = 65 ∧ (∀ j, j < k → cur[64 - j]? = some (.int .u8 ((hexDig (n / 16 ^ j % 16)).toNat : Int))) ∧ Below B w wr) (fun u _ _ => (intOf u).toNat)
  case atStart => exact ⟨0, z0, by omega, by simp, rfl, HZ.out.1, HZ.out.2.1, fun j hj => absurd hj (by omega), HZ.out.2.2⟩
  case round =>
    obtain ⟨k, cur, hk, rfl, rfl, hh, hs, hd, hb⟩ := hrel
    have HD := Lib.hid hd
    have HB := Lib.hid hb
    have HH := Lib.hid hh
    have HS := Lib.hid hs
    have HKU : Hid (n / 16 ^ (k + 1) = n / 16 ^ k / 16) := by show _ = _; rw [Nat.pow_succ, Nat.div_div_eq_div_mul]
    have hu : n / 16 ^ k < 4294967296 := Nat.lt_of_le_of_lt (Nat.div_le_self _ _) hn
    have HKL : Hid (k < 8) := hk
    have HU0 : Hid (k = 7 → n / 16 ^ k < 16) := fun h => by subst h; show n / 268435456 < 16; omega
    have HDN : Hid (hexDig (n / 16 ^ k % 16) = hexDig (n / 16 ^ k % 16)) := rfl
    generalize hun : n / 16 ^ k = u at *
    have HUN := Lib.hid hun
    clear hd hb hh hs hun
    by_cases hge : 16 ≤ u
    · obtain ⟨i, hi⟩ : ∃ i, i = 64 - k := ⟨_, rfl⟩
      have q1 : IntKind.i64.wrap (((65 - k : Nat) : Int) - 1) = (i : Int) := by rw [IntKind.wrap_i64]; omega
      have HI : Hid (i + k = 64) := by show _ = _; omega
      have hil : i < cur.size := by rw [HS.out]; omega
      generalize hm : ((65 - k : Nat) : Int) = m at *
      have q2 : bits BinOp.and IntKind.u64 (u : Int) 15 = ((u % 16 : Nat) : Int) := and15 _ (.inl rfl) u (by omega)
      have hc0 : wr.cell? ⟨B, i, none⟩ = some cur[i] := by rw [cell_of_row _ _ _ _ _ _ HH.out]; simp [hil]
      have hf0 : wr.frozen? ⟨B, i, none⟩ = false := frozen_of_row wr B i cur _ HH.out
      have q3 : (i : Int) < 65 := by omega
      have q4 : (0 : Int) ≤ (i : Int) := by omega
      generalize cur[i] = c0 at *
      clear hi hm hil hk
      go_wp2
      refine ⟨⟨k + 1, cur.setIfInBounds i (.int .u8 ((hexDig (u % 16)).toNat : Int)), ?_, by rw [HKU.out]; rfl, ?_, ?_, by simp [HS.out], fun j hj => ?_, ?_⟩, ?_⟩
      · have h7 : k ≠ 7 := fun e => by have := HU0.out e; omega
        have := HKL.out; omega
      · have := HI.out
        rw [show (65 - (k + 1) : Nat) = i by omega]
      · rw [tab_at _ (Nat.mod_lt _ (by decide))]
        exact heap_setCell_same wr B i cur _ _ HH.out
      · have hi := HI.out
        rw [Array.getElem?_setIfInBounds]
        by_cases e : j = k
        · subst e
          rw [if_pos (by omega), if_pos (by rw [HS.out]; omega), HUN.out]
        · rw [if_neg (by omega)]
          exact HD.out j (by omega)
      · exact Below.setCell HB.out (Nat.le_refl _) _
      · simp [intOf]; omega
    · have hlt : u < 16 := by omega
      obtain ⟨i, hi⟩ : ∃ i, i = 64 - k := ⟨_, rfl⟩
      have q1 : IntKind.i64.wrap (((65 - k : Nat) : Int) - 1) = (i : Int) := by rw [IntKind.wrap_i64]; omega
      have HI : Hid (i + k = 64) := by show _ = _; omega
      have hil : i < cur.size := by rw [HS.out]; omega
      generalize hm : ((65 - k : Nat) : Int) = m at *
      have hc0 : wr.cell? ⟨B, i, none⟩ = some cur[i] := by rw [cell_of_row _ _ _ _ _ _ HH.out]; simp [hil]
      have hf0 : wr.frozen? ⟨B, i, none⟩ = false := frozen_of_row wr B i cur _ HH.out
      have q3 : (i : Int) < 65 := by omega
      have q4 : (0 : Int) ≤ (i : Int) := by omega
      have q5 : (i : Int) ≤ 65 := by omega
      generalize cur[i] = c0 at *
      clear hi hm hil hk
      have HCV : Hid (∀ W : World, W.heap[B]? = some (.cells (cur.setIfInBounds i (.int .u8 ((hexDig u).toNat : Int))) 162 (0, 0)) → (convert 109 9 (.slice (some ⟨B, i, none⟩) (65 - i) (65 - i))).run Tryz.prog W = .ok (.string ⟨(hexLow n (k + 1)).toArray⟩) W) := fun W hW => by
        have hi := HI.out
        have hl := hexLow_length n (k + 1)
        have h := run_convert_bytes_back (P := Tryz.prog) W 109 9 5 ⟨B, i, none⟩ (65 - i) (hexLow n (k + 1)) Tryz.underlying109 Tryz.underlying5 Tryz.underlying9 (fun j hj => by
          rw [Addr.add_lit, cell_of_row _ _ _ _ _ _ hW, Array.getElem?_setIfInBounds]
          have hg := hexLow_get n (k + 1) (k - j) (by omega)
          rw [show k + 1 - 1 - (k - j) = j by omega, List.getElem?_eq_getElem hj, Option.some.injEq] at hg
          rw [hg]
          by_cases e : j = 0
          · subst e
            rw [if_pos (by omega), if_pos (by rw [HS.out]; omega), Nat.sub_zero, HUN.out, Nat.mod_eq_of_lt hlt]
          · rw [if_neg (by omega)]
            have := HD.out (k - j) (by omega)
            rw [show 64 - (k - j) = i + j by omega] at this
            exact this)
        rw [hl, show k + 1 = 65 - i by omega] at h
        rw [h, show 65 - i = k + 1 by omega]
      go_wp2
      rw [HCV.out _ (by rw [tab_at _ hlt]; exact heap_setCell_same wr B i cur _ _ HH.out)]
      go_wp2
      go_ret2
      refine ⟨k, HKL.out, by rw [HUN.out]; exact hlt, rfl, by rw [HB0.out]; exact Below.setCell HB.out (Nat.le_refl _) _⟩
end Go.Proofs.YtpkkgfjjnggijaaGreatDoor
