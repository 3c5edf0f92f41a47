/- Plain laws: numbers read from hexadecimal digits. -/
import Derived.Test.YtpkkgfjjnggijaaGreatDoorHC
import Derived.Test.YtpkkgfjjnggijaaGreatDoorTA
namespace Go.Proofs.YtpkkgfjjnggijaaGreatDoor
set_option linter.unusedSimpArgs false
set_option linter.unusedVariables false
open Go.RowKit Go.Fl Go.Tx

/-- The value of a lower-case hexadecimal digit. -/
def dig (c : UInt8) : Option Nat := if 48 ≤ c.toNat ∧ c.toNat ≤ 57 then some (c.toNat - 48) else if 97 ≤ c.toNat ∧ c.toNat ≤ 102 then some (c.toNat - 87) else none
/-- The number of some digits, behind a number. -/
def numFrom (n : Nat) : List UInt8 → Option Nat
  | [] => some n
  | c :: l => match dig c with
    | some d => numFrom (16 * n + d) l
    | none => none
theorem dig_hexDig : ∀ d, d < 16 → dig (hexDig d) = some d := by decide
theorem dig_lt {c : UInt8} {d : Nat} (h : dig c = some d) : d < 16 := by
  unfold dig at h
  split at h
  · cases h; omega
  · split at h
    · cases h; omega
    · cases h
theorem dig_back {c : UInt8} {d : Nat} (h : dig c = some d) : c = hexDig d := by
  have e : c = UInt8.ofNat c.toNat := by simp
  unfold dig at h
  split at h
  · cases h
    unfold hexDig
    rw [if_pos (by omega)]
    rw [e]; congr 1; simp; omega
  · split at h
    · cases h
      unfold hexDig
      rw [if_neg (by omega)]
      rw [e]; congr 1; simp; omega
    · cases h
theorem numFrom_append (l : List UInt8) (m : List UInt8) : ∀ n, numFrom n (l ++ m) = (numFrom n l).bind fun k => numFrom k m := by
  induction l with
  | nil => intro n; rfl
  | cons c l ih =>
    intro n
    show (match dig c with | some d => numFrom (16 * n + d) (l ++ m) | none => none) = (match dig c with | some d => numFrom (16 * n + d) l | none => none).bind fun k => numFrom k m
    cases dig c with
    | none => rfl
    | some d => exact ih _
theorem numFrom_hexLow (n : Nat) : ∀ k a, numFrom a (hexLow n k) = some (16 ^ k * a + n % 16 ^ k)
  | 0, a => by simp [numFrom, hexLow, Nat.mod_one]
  | k + 1, a => by
    show (match dig (hexDig (n / 16 ^ k % 16)) with | some d => numFrom (16 * a + d) (hexLow n k) | none => none) = _
    rw [dig_hexDig _ (Nat.mod_lt _ (by decide))]
    simp only
    rw [numFrom_hexLow n k]
    congr 1
    have h1 : n % 16 ^ (k + 1) = 16 ^ k * (n / 16 ^ k % 16) + n % 16 ^ k := by
      rw [Nat.pow_succ, Nat.mod_mul]; omega
    rw [h1, Nat.pow_succ, Nat.mul_add]
    rw [show 16 ^ k * (16 * a) = 16 ^ k * 16 * a by rw [Nat.mul_assoc]]
    omega
theorem numFrom_lt : ∀ (l : List UInt8) (a n : Nat), numFrom a l = some n → n < 16 ^ l.length * (a + 1) ∧ 16 ^ l.length * a ≤ n
  | [], a, n, h => by cases h; simp
  | c :: l, a, n, h => by
    unfold numFrom at h
    cases hd : dig c with
    | none => rw [hd] at h; cases h
    | some d =>
      rw [hd] at h
      have hlt := dig_lt hd
      obtain ⟨h1, h2⟩ := numFrom_lt l _ _ h
      rw [List.length_cons, Nat.pow_succ]
      have e1 : 16 ^ l.length * 16 * (a + 1) = 16 ^ l.length * (16 * a + 16) := by rw [Nat.mul_assoc, Nat.mul_add]
      have e2 : 16 ^ l.length * 16 * a = 16 ^ l.length * (16 * a) := by rw [Nat.mul_assoc]
      have g1 := Nat.mul_le_mul_left (16 ^ l.length) (show 16 * a + d + 1 ≤ 16 * a + 16 by omega)
      have g2 := Nat.mul_le_mul_left (16 ^ l.length) (show 16 * a ≤ 16 * a + d by omega)
      omega
theorem hexLow_of_num : ∀ (l : List UInt8) (a n : Nat), numFrom a l = some n → l = hexLow n l.length
  | [], a, n, h => rfl
  | c :: l, a, n, h => by
    have h0 := h
    unfold numFrom at h
    cases hd : dig c with
    | none => rw [hd] at h; cases h
    | some d =>
      rw [hd] at h
      have hlt := dig_lt hd
      obtain ⟨h1, h2⟩ := numFrom_lt l _ _ h
      have h3 := hexLow_of_num l _ _ h
      have hp : 0 < 16 ^ l.length := Nat.pow_pos (by decide)
      have hq : n / 16 ^ l.length = 16 * a + d := by
        apply Nat.div_eq_of_lt_le
        · rw [Nat.mul_comm]; exact h2
        · rw [Nat.mul_comm]; exact h1
      show c :: l = hexDig (n / 16 ^ l.length % 16) :: hexLow n l.length
      rw [hq, ← h3, show (16 * a + d) % 16 = d by omega, ← dig_back hd]
/-- The number that a text of 8 digits tells. -/
def wordOf (t : ByteArray) : Option Nat := if t.size = 8 then (numFrom 0 t.data.toList).filter fun n => cn .f32 n == n else none
theorem size_list (t : ByteArray) : t.data.toList.length = t.size := rfl
theorem ba_eq {a b : ByteArray} (h : a.data.toList = b.data.toList) : a = b := by
  apply ByteArray.ext
  exact Array.ext' h
theorem hexB_list (x : Nat) : (hexB x).data.toList = hexLow (cn .f32 x) 8 := by show ((hexLow (cn .f32 x) 8).toArray).toList = _; rfl
theorem digits8 {t : ByteArray} {n : Nat} (hs : t.size = 8) (h : numFrom 0 t.data.toList = some n) : n < 4294967296 ∧ t.data.toList = hexLow n 8 := by
  have h1 := hexLow_of_num _ _ _ h
  have h2 := (numFrom_lt _ _ _ h).1
  rw [size_list, hs] at h1 h2
  have e : (16 : Nat) ^ 8 = 4294967296 := by decide
  rw [e] at h2
  exact ⟨by omega, h1⟩
/-- A text tells a number: just if it is that number's text. -/
theorem wordOf_iff (t : ByteArray) (x : Nat) : wordOf t = some x ↔ x < 4294967296 ∧ cn .f32 x = x ∧ hexB x = t := by
  constructor
  · intro h
    unfold wordOf at h
    split at h
    · rename_i hs
      rw [Option.filter_eq_some_iff] at h
      obtain ⟨h1, h2⟩ := h
      obtain ⟨h3, h4⟩ := digits8 hs h1
      have h5 : cn .f32 x = x := by simpa using h2
      exact ⟨h3, h5, ba_eq (by rw [hexB_list, h5, h4])⟩
    · cases h
  · rintro ⟨h1, h2, rfl⟩
    unfold wordOf
    rw [if_pos (hexB_size x), hexB_list, h2, numFrom_hexLow]
    have e : 16 ^ 8 * 0 + x % 16 ^ 8 = x := by
      have : (16 : Nat) ^ 8 = 4294967296 := by decide
      rw [this]; omega
    rw [e, Option.filter_eq_some_iff]
    exact ⟨rfl, by simpa using h2⟩
theorem wordOf_none {t : ByteArray} (h : wordOf t = none) {x : Nat} (hx : x < 4294967296) (he : hexB x = t) : False := by
  have h1 : wordOf t = some (cn .f32 x) := (wordOf_iff t _).2 ⟨cn_lt hx, cn_cn _ _, by rw [← he]; unfold hexB; rw [cn_cn]⟩
  rw [h] at h1; cases h1
/-- The numbers of some words. -/
def wordsOf : List ByteArray → Option (List Nat)
  | [] => some []
  | t :: ts => (wordOf t).bind fun x => (wordsOf ts).map fun xs => x :: xs
theorem wordsOf_none {ts : List ByteArray} {k : Nat} (hk : k < ts.length) (h : wordOf ts[k] = none) : wordsOf ts = none := by
  induction ts generalizing k with
  | nil => simp at hk
  | cons t ts ih =>
    unfold wordsOf
    cases k with
    | zero => simp only [List.getElem_cons_zero] at h; rw [h]; rfl
    | succ k =>
      rw [ih (k := k) (by simpa using hk) (by simpa using h)]
      cases wordOf t <;> rfl
theorem wordsOf_snoc (ts : List ByteArray) (t : ByteArray) : wordsOf (ts ++ [t]) = (wordsOf ts).bind fun xs => (wordOf t).map fun x => xs ++ [x] := by
  induction ts with
  | nil =>
    show ((wordOf t).bind fun x => (wordsOf []).map fun xs => x :: xs) = _
    show _ = (some []).bind fun xs => (wordOf t).map fun x => xs ++ [x]
    cases wordOf t <;> rfl
  | cons s ts ih =>
    show (wordOf s).bind (fun x => (wordsOf (ts ++ [t])).map fun xs => x :: xs) = ((wordOf s).bind fun x => (wordsOf ts).map fun xs => x :: xs).bind _
    rw [ih]
    cases wordOf s with
    | none => rfl
    | some x =>
      cases wordsOf ts with
      | none => rfl
      | some xs => cases wordOf t <;> rfl
/-- 'none'. -/
def noneB : ByteArray := ⟨#[110, 111, 110, 101]⟩
/-- What a text of numbers tells. -/
def numsOf (t : ByteArray) : Option (List Nat) := if t = noneB then some [] else if (cutAll 44 t).length ≤ 256 then wordsOf (cutAll 44 t) else none
theorem wordsOf_take (ts : List ByteArray) (k : Nat) (hk : k < ts.length) : wordsOf (ts.take (k + 1)) = (wordsOf (ts.take k)).bind fun xs => (wordOf ts[k]).map fun x => xs ++ [x] := by
  rw [List.take_succ_eq_append_getElem hk, wordsOf_snoc]
theorem wordsOf_length : ∀ {ts : List ByteArray} {xs : List Nat}, wordsOf ts = some xs → xs.length = ts.length
  | [], xs, h => by cases h; rfl
  | t :: ts, xs, h => by
    unfold wordsOf at h
    cases hw : wordOf t with
    | none => rw [hw] at h; cases h
    | some x =>
      rw [hw] at h
      cases hs : wordsOf ts with
      | none => rw [hs] at h; cases h
      | some ys =>
        rw [hs] at h
        cases h
        simp [wordsOf_length hs]
theorem wordsOf_bd : ∀ {ts : List ByteArray} {xs : List Nat}, wordsOf ts = some xs → Bd xs
  | [], xs, h => by cases h; exact fun x hx => by simp at hx
  | t :: ts, xs, h => by
    unfold wordsOf at h
    cases hw : wordOf t with
    | none => rw [hw] at h; cases h
    | some x =>
      rw [hw] at h
      cases hs : wordsOf ts with
      | none => rw [hs] at h; cases h
      | some ys =>
        rw [hs] at h
        cases h
        intro z hz
        rcases List.mem_cons.1 hz with rfl | hz
        · exact ((wordOf_iff t _).1 hw).1
        · exact wordsOf_bd hs z hz
end Go.Proofs.YtpkkgfjjnggijaaGreatDoor
