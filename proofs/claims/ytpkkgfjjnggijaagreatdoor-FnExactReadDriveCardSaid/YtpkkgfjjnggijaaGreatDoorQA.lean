/- Plain laws: numbers in decimal, read. -/
import Derived.Test.YtpkkgfjjnggijaaGreatDoorTN
import Derived.Lib.ParseIntBTie
import Derived.Lib.AtoiAllCases
namespace Go.Proofs.YtpkkgfjjnggijaaGreatDoor
set_option linter.unusedSimpArgs false
set_option linter.unusedVariables false
open Go.RowKit Go.Lib

def isDig (c : UInt8) : Bool := decide (48 ≤ c.toNat) && decide (c.toNat ≤ 57)
/-- What the digits among some bytes spell. -/
def accD (n : Nat) : List UInt8 → Nat
  | [] => n
  | c :: r => accD (if isDig c then 10 * n + (c.toNat - 48) else n) r
theorem accD_append : ∀ (l m : List UInt8) (n : Nat), accD n (l ++ m) = accD (accD n l) m
  | [], _, _ => rfl
  | c :: r, m, n => by show accD _ (r ++ m) = _; rw [accD_append r m]; rfl
theorem dig_ok (d : Nat) (h : d < 10) : (UInt8.ofNat (48 + d)).toNat = 48 + d := by
  rw [UInt8.toNat_ofNat_of_lt' (by show _ < 256; omega)]
theorem isDig_ok (d : Nat) (h : d < 10) : isDig (UInt8.ofNat (48 + d)) = true := by unfold isDig; rw [dig_ok d h]; simp; omega
theorem accD_dec : ∀ (u : Nat), accD 0 (decDigits u) = u := by
  intro u
  induction u using Nat.strongRecOn with
  | ind u ih =>
    rw [decDigits]
    by_cases h : u < 10
    · rw [dif_pos h]
      show (if isDig (UInt8.ofNat (48 + u)) then 10 * 0 + ((UInt8.ofNat (48 + u)).toNat - 48) else 0) = u
      rw [isDig_ok u h, dig_ok u h]; simp
    · rw [dif_neg h, accD_append, ih (u / 10) (by omega)]
      show (if isDig (UInt8.ofNat (48 + u % 10)) then 10 * (u / 10) + ((UInt8.ofNat (48 + u % 10)).toNat - 48) else u / 10) = u
      rw [isDig_ok _ (by omega), dig_ok _ (by omega)]; simp; omega
theorem parse_append : ∀ (l m : List UInt8) (n k : Nat), parseUint10 n l = .ok k → parseUint10 n (l ++ m) = parseUint10 k m
  | [], m, n, k, h => by simp only [parseUint10] at h; injection h with h; subst h; rfl
  | c :: r, m, n, k, h => by
    simp only [parseUint10, List.cons_append] at h ⊢
    split at h
    · split at h
      · cases h
      · split at h
        · cases h
        · rename_i h1 h2 h3
          rw [if_pos h1, if_neg h2, if_neg h3]
          exact parse_append r m _ k h
    · cases h
theorem parse_dec : ∀ (u : Nat), u < 18446744073709551616 → parseUint10 0 (decDigits u) = .ok u := by
  intro u
  induction u using Nat.strongRecOn with
  | ind u ih =>
    intro hu
    rw [decDigits]
    by_cases h : u < 10
    · rw [dif_pos h]
      simp only [parseUint10]
      rw [dig_ok u h, if_pos (by omega), if_neg (by omega), if_neg (by omega)]
      congr 1; omega
    · rw [dif_neg h, parse_append _ _ _ _ (ih (u / 10) (by omega) (by omega))]
      simp only [parseUint10]
      rw [dig_ok _ (by omega), if_pos (by omega), if_neg (by omega), if_neg (by omega)]
      congr 1; omega
theorem dec_ne (u : Nat) : ∃ c r, decDigits u = c :: r ∧ isDig c = true := by
  induction u using Nat.strongRecOn with
  | ind u ih =>
    rw [decDigits]
    by_cases h : u < 10
    · rw [dif_pos h]; exact ⟨_, _, rfl, isDig_ok u h⟩
    · rw [dif_neg h]
      obtain ⟨c, r, h1, h2⟩ := ih (u / 10) (by omega)
      rw [h1]
      exact ⟨c, _, rfl, h2⟩
theorem parse_itoa (n : Int) (h0 : -1000000000000000 ≤ n) (h1 : n ≤ 1000000000000000) : parseIntB 64 (itoa n) = .ok n := by
  rw [parseIntB_64]
  unfold itoa
  by_cases hn : n < 0
  · rw [if_pos hn]
    obtain ⟨c, r, e, -⟩ := dec_ne n.natAbs
    have hp : parseMag (decDigits n.natAbs) = .ok n.natAbs := by
      unfold parseMag
      rw [if_neg (by rw [e]; simp)]
      exact parse_dec _ (by omega)
    rw [atoiAll_minus, hp]
    unfold signed
    simp only []
    rw [if_neg (by omega)]
    congr 1; omega
  · rw [if_neg hn]
    obtain ⟨c, r, e, hc⟩ := dec_ne n.toNat
    have hp : parseMag (decDigits n.toNat) = .ok n.toNat := by
      unfold parseMag
      rw [if_neg (by rw [e]; simp)]
      exact parse_dec _ (by omega)
    have hc' : 48 ≤ c.toNat ∧ c.toNat ≤ 57 := by unfold isDig at hc; simpa using hc
    rw [e] at hp ⊢
    rw [atoiAll_plain c r (by omega) (by omega), hp]
    unfold signless
    simp only []
    rw [if_neg (by omega)]
    congr 1; omega
/-- Whether a text begins with a minus. -/
def negB (t : ByteArray) : Bool := match t.data.toList with
  | c :: _ => c == 45
  | [] => false
def accB (t : ByteArray) : Int := if negB t then -(accD 0 t.data.toList : Int) else (accD 0 t.data.toList : Int)
def inV (n : Int) : Bool := decide (-1000000000000000 ≤ n) && decide (n ≤ 1000000000000000)
/-- The number that a text tells in decimal. -/
def decOf (t : ByteArray) : Option Int := if inV (accB t) && decide (decB (accB t) = t) then some (accB t) else none
theorem accB_dec (n : Int) : accB (decB n) = n := by
  unfold accB negB decB itoa
  by_cases hn : n < 0
  · rw [if_pos hn]
    show (if (45 == (45 : UInt8)) = true then _ else _) = n
    rw [if_pos (by decide)]
    show -((accD 0 (45 :: decDigits n.natAbs) : Nat) : Int) = n
    have : accD 0 (45 :: decDigits n.natAbs) = accD 0 (decDigits n.natAbs) := rfl
    rw [this, accD_dec]; omega
  · rw [if_neg hn]
    obtain ⟨c, r, e, hc⟩ := dec_ne n.toNat
    have hc' : 48 ≤ c.toNat ∧ c.toNat ≤ 57 := by unfold isDig at hc; simpa using hc
    show (if (match (decDigits n.toNat) with | c :: _ => c == 45 | [] => false) = true then -((accD 0 (decDigits n.toNat) : Nat) : Int) else ((accD 0 (decDigits n.toNat) : Nat) : Int)) = n
    rw [accD_dec, e]
    simp only []
    rw [if_neg (by intro h; rw [beq_iff_eq] at h; subst h; revert hc'; decide)]
    omega
theorem inV_iff (n : Int) : inV n = true ↔ -1000000000000000 ≤ n ∧ n ≤ 1000000000000000 := by unfold inV; simp
/-- It is the one whose decimal digits these are. -/
theorem decOf_iff (t : ByteArray) (n : Int) : decOf t = some n ↔ inV n = true ∧ decB n = t := by
  unfold decOf
  constructor
  · intro h
    split at h
    · rename_i hc
      cases h
      simpa using hc
    · cases h
  · rintro ⟨h1, rfl⟩
    rw [accB_dec, h1]; simp
theorem decOf_dec {n : Int} (h : inV n = true) : decOf (decB n) = some n := (decOf_iff _ _).2 ⟨h, rfl⟩
theorem decOf_none {t : ByteArray} (h : ∀ n, inV n = true → decB n ≠ t) : decOf t = none := by
  cases e : decOf t with
  | none => rfl
  | some n => exact absurd ((decOf_iff t n).1 e).2 (h n ((decOf_iff t n).1 e).1)
theorem parse_of {t : ByteArray} {n : Int} (h : decOf t = some n) : parseIntB 64 t.data.toList = .ok n := by
  obtain ⟨h1, rfl⟩ := (decOf_iff t n).1 h
  rw [inV_iff] at h1
  exact parse_itoa n h1.1 h1.2
theorem dec_len (u : Nat) : ∀ k, u < 10 ^ (k + 1) → (decDigits u).length ≤ k + 1 := by
  induction u using Nat.strongRecOn with
  | ind u ih =>
    intro k hk
    rw [decDigits]
    by_cases h : u < 10
    · rw [dif_pos h]; simp
    · rw [dif_neg h]
      match k with
      | 0 => omega
      | k + 1 =>
        have := ih (u / 10) (by omega) k (by rw [Nat.pow_succ] at hk; omega)
        simp; omega
theorem decB_size17 {n : Int} (h : inV n = true) : 1 ≤ (decB n).size ∧ (decB n).size ≤ 17 := by
  rw [inV_iff] at h
  have e : (decB n).size = (itoa n).length := by unfold decB; show (itoa n).toArray.size = _; simp
  rw [e]
  unfold itoa
  by_cases hn : n < 0
  · rw [if_pos hn]
    have := dec_len n.natAbs 15 (by omega)
    simp; omega
  · rw [if_neg hn]
    have := dec_len n.toNat 15 (by omega)
    obtain ⟨c, r, e, -⟩ := dec_ne n.toNat
    have h2 : 1 ≤ (decDigits n.toNat).length := by rw [e]; simp
    omega
theorem accD_lt : ∀ (l : List UInt8) (n k : Nat), n < 10 ^ k → accD n l < 10 ^ (k + l.length)
  | [], n, k, h => h
  | c :: r, n, k, h => by
    show accD (if isDig c then 10 * n + (c.toNat - 48) else n) r < _
    have hc : (if isDig c then 10 * n + (c.toNat - 48) else n) < 10 ^ (k + 1) := by
      rw [Nat.pow_succ]
      split
      · rename_i hd
        unfold isDig at hd
        simp at hd
        omega
      · have := Nat.pow_pos (n := k) (show 0 < 10 by decide)
        omega
    have := accD_lt r _ (k + 1) hc
    rw [show k + (c :: r).length = k + 1 + r.length by simp; omega]
    exact this
end Go.Proofs.YtpkkgfjjnggijaaGreatDoor
