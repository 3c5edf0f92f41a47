/- Plain laws: check numbers, digits, journals. -/
import Derived.Test.YtfhmlhocaldioaaDoorTB
import Derived.Lib.ItoaLen
import Derived.Lib.IndexLaws
import Derived.Lib.IndexBytes
import Derived.Lib.IndexMore
namespace Go.Proofs.YtfhmlhocaldioaaDoor
set_option linter.unusedSimpArgs false
set_option linter.unusedVariables false
open Go.RowKit Go.Fl Go.Tx Go.Lib

def chkTo (n : Int) (s : ByteArray) : Nat → Int
  | 0 => n
  | k + 1 => (761 * chkTo n s k + ((s.data.toList[k]?.getD 0).toNat : Int) + 83) % 65003
def chk (n : Int) (s : ByteArray) : Int := chkTo n s s.size
theorem chkTo_succ (n : Int) (s : ByteArray) (k : Nat) (hk : k < s.size) : chkTo n s (k + 1) = (761 * chkTo n s k + ((s[k].toNat : Nat) : Int) + 83) % 65003 := by
  show (761 * chkTo n s k + ((s.data.toList[k]?.getD 0).toNat : Int) + 83) % 65003 = _
  rw [byte_at s k hk]; rfl
theorem chkTo_bound (n : Int) (s : ByteArray) (h0 : 0 ≤ n) (h1 : n ≤ 65002) : ∀ k, 0 ≤ chkTo n s k ∧ chkTo n s k ≤ 65002
  | 0 => ⟨h0, h1⟩
  | k + 1 => by unfold chkTo; omega
theorem chk_bound (n : Int) (s : ByteArray) (h0 : 0 ≤ n) (h1 : n ≤ 65002) : 0 ≤ chk n s ∧ chk n s ≤ 65002 := chkTo_bound n s h0 h1 _
/-- The digits laid so far, and what is left of the number. -/
def DigAt (n u : Nat) (ds : List UInt8) : Prop := (ds = [] ∧ u = n) ∨ (ds ≠ [] ∧ u = 0 ∧ decDigits n = ds) ∨ (ds ≠ [] ∧ u ≠ 0 ∧ decDigits n = decDigits u ++ ds)
theorem DigAt.step {n u : Nat} {ds : List UInt8} (h : DigAt n u ds) (hgo : ds = [] ∨ u ≠ 0) : DigAt n (u / 10) (UInt8.ofNat (48 + u % 10) :: ds) := by
  have key : decDigits n = decDigits u ++ ds := by
    rcases h with ⟨rfl, rfl⟩ | ⟨h1, rfl, h3⟩ | ⟨_, _, h3⟩
    · simp
    · rcases hgo with h | h
      · exact absurd h h1
      · exact absurd rfl h
    · exact h3
  by_cases hu : u < 10
  · right; left
    refine ⟨by simp, by omega, ?_⟩
    rw [key, decDigits_one hu, Nat.mod_eq_of_lt hu]
    rfl
  · right; right
    refine ⟨by simp, by omega, ?_⟩
    rw [key, decDigits, dif_neg hu]
    simp
theorem DigAt.done {n u : Nat} {ds : List UInt8} (h : DigAt n u ds) (h0 : ds ≠ []) (h1 : u = 0) : ds = decDigits n := by
  rcases h with ⟨h, _⟩ | ⟨_, _, h⟩ | ⟨_, h, _⟩
  · exact absurd h h0
  · exact h.symm
  · exact absurd h1 h
theorem DigAt.le {n u : Nat} {ds : List UInt8} (h : DigAt n u ds) : ds.length ≤ nDigits n := by
  rcases h with ⟨rfl, _⟩ | ⟨_, _, h⟩ | ⟨_, _, h⟩
  · simp
  · rw [← decDigits_length, h]; exact Nat.le_refl _
  · rw [← decDigits_length, h]; simp
def decB (n : Int) : ByteArray := ⟨(itoa n).toArray⟩
theorem decB_size (n : Int) (h0 : 0 ≤ n) (h1 : n ≤ 65002) : 1 ≤ (decB n).size ∧ (decB n).size ≤ 21 := by
  have h := itoa_length_le n (by omega) (by omega)
  constructor
  · show 1 ≤ (itoa n).toArray.size
    rw [List.size_toArray]
    obtain ⟨u, rfl⟩ : ∃ u : Nat, n = u := ⟨n.toNat, by omega⟩
    rw [itoa_nonneg, decDigits_length]
    by_cases h : u < 10
    · rw [nDigits_small h]; exact Nat.le_refl _
    · rw [nDigits_big h]; omega
  · show (itoa n).toArray.size ≤ 21
    rw [List.size_toArray]; exact h
/-- One line of a journal: its check number, and it. -/
def jLine (n : Int) (s : ByteArray) : ByteArray := decB (chk n s) ++ ⟨#[32]⟩ ++ s ++ ⟨#[10]⟩
/-- Behind k lines. -/
def jAt (ss : List ByteArray) : Nat → ByteArray × Int
  | 0 => (ByteArray.empty, 0)
  | k + 1 => ((jAt ss k).1 ++ jLine (jAt ss k).2 (ss[k]?.getD ByteArray.empty), chk (jAt ss k).2 (ss[k]?.getD ByteArray.empty))
theorem jAt_succ (ss : List ByteArray) (k : Nat) (hk : k < ss.length) : jAt ss (k + 1) = ((jAt ss k).1 ++ jLine (jAt ss k).2 ss[k], chk (jAt ss k).2 ss[k]) := by
  show (_, _) = _
  rw [List.getElem?_eq_getElem hk]; rfl
theorem jAt_bound (ss : List ByteArray) : ∀ k, 0 ≤ (jAt ss k).2 ∧ (jAt ss k).2 ≤ 65002
  | 0 => ⟨Int.le_refl _, by show (0 : Int) ≤ 65002; decide⟩
  | k + 1 => chk_bound _ _ (jAt_bound ss k).1 (jAt_bound ss k).2
theorem size_app (a b : ByteArray) : (a ++ b).size = a.size + b.size := ByteArray.size_append
theorem jLine_size (n : Int) (s : ByteArray) (h0 : 0 ≤ n) (h1 : n ≤ 65002) : s.size + 3 ≤ (jLine n s).size ∧ (jLine n s).size ≤ s.size + 23 := by
  have := decB_size (chk n s) (chk_bound n s h0 h1).1 (chk_bound n s h0 h1).2
  have e1 : (⟨#[32]⟩ : ByteArray).size = 1 := rfl
  have e2 : (⟨#[10]⟩ : ByteArray).size = 1 := rfl
  unfold jLine
  simp only [size_app, e1, e2]
  omega
/-- How long the first lines are, each with three bytes besides. -/
def lenTo (ss : List ByteArray) : Nat → Nat
  | 0 => 0
  | k + 1 => lenTo ss k + ((ss[k]?.getD ByteArray.empty).size + 3)
theorem lenTo_succ (ss : List ByteArray) (k : Nat) (hk : k < ss.length) : lenTo ss (k + 1) = lenTo ss k + (ss[k].size + 3) := by
  show _ + _ = _
  rw [List.getElem?_eq_getElem hk]; rfl
theorem jAt_size (ss : List ByteArray) : ∀ k, lenTo ss k ≤ (jAt ss k).1.size
  | 0 => Nat.le_refl _
  | k + 1 => by
    have h1 := jAt_size ss k
    have h2 := (jLine_size (jAt ss k).2 (ss[k]?.getD ByteArray.empty) (jAt_bound ss k).1 (jAt_bound ss k).2).1
    show lenTo ss k + _ ≤ ((jAt ss k).1 ++ _).size
    rw [size_app]
    omega
theorem jAt_size_le (ss : List ByteArray) : ∀ k, (jAt ss k).1.size ≤ 8 * lenTo ss k
  | 0 => Nat.le_refl _
  | k + 1 => by
    have h1 := jAt_size_le ss k
    have h2 := (jLine_size (jAt ss k).2 (ss[k]?.getD ByteArray.empty) (jAt_bound ss k).1 (jAt_bound ss k).2).2
    show ((jAt ss k).1 ++ _).size ≤ 8 * (lenTo ss k + _)
    rw [size_app]
    omega
theorem jAt_mono (ss : List ByteArray) (k : Nat) : ∀ j, (jAt ss k).1.size ≤ (jAt ss (k + j)).1.size
  | 0 => Nat.le_refl _
  | j + 1 => by
    have h1 := jAt_mono ss k j
    show _ ≤ ((jAt ss (k + j)).1 ++ _).size
    rw [size_app]
    omega
/-- A list of which a journal is kept. -/
def noNl (s : ByteArray) : Prop := (10 : UInt8) ∉ s.data.toList
def JGood (ss : List ByteArray) : Prop := (∀ s ∈ ss, noNl s) ∧ (jAt ss ss.length).1.size ≤ 16000
theorem not_good_size {ss : List ByteArray} {k : Nat} (hk : k ≤ ss.length) (h : 16000 < (jAt ss k).1.size) : ¬ JGood ss := by
  rintro ⟨_, h2⟩
  have := jAt_mono ss k (ss.length - k)
  rw [show k + (ss.length - k) = ss.length by omega] at this
  omega
theorem not_good_len {ss : List ByteArray} {k : Nat} (hk : k ≤ ss.length) (h : 16000 < lenTo ss k) : ¬ JGood ss := not_good_size hk (Nat.lt_of_lt_of_le h (jAt_size ss k))
theorem not_good_nl {ss : List ByteArray} {k : Nat} (hk : k < ss.length) (h : ¬ noNl ss[k]) : ¬ JGood ss := fun g => h (g.1 _ (List.getElem_mem hk))
open Classical in
/-- What a journal of lines is, and whether there is one. -/
def JOut (ss : List ByteArray) (e : Ending) : Prop := e = .returned (if JGood ss then .tuple #[.string (jAt ss ss.length).1, .bool true] else .tuple #[.string ByteArray.empty, .bool false])
theorem JOut.no {ss : List ByteArray} (h : ¬ JGood ss) : JOut ss (.returned (.tuple #[.string ByteArray.empty, .bool false])) := by unfold JOut; rw [if_neg h]
theorem JOut.ok {ss : List ByteArray} (h : JGood ss) : JOut ss (.returned (.tuple #[.string (jAt ss ss.length).1, .bool true])) := by unfold JOut; rw [if_pos h]
theorem contains_nl (s : ByteArray) : contains s.data.toList [10] = true ↔ ¬ noNl s := by
  unfold noNl contains
  rw [index_one, decide_eq_true_eq]
  constructor
  · intro h hc
    obtain ⟨o, ho⟩ := Int.eq_ofNat_of_zero_le h
    have := (indexByte_some ho).1
    exact hc (List.mem_of_getElem? this)
  · intro h
    by_cases h0 : 0 ≤ indexByte s.data.toList 10
    · exact h0
    · exfalso
      have h1 := indexByte_ge s.data.toList 10
      have h2 : indexByte s.data.toList 10 = -1 := by omega
      apply h
      intro hm
      obtain ⟨k, hk⟩ := List.mem_iff_getElem?.1 hm
      exact indexByte_none h2 k hk
end Go.Proofs.YtfhmlhocaldioaaDoor
