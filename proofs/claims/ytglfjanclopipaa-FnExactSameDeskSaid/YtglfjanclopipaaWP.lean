/- Plain laws: pairs of two lists. -/
import Derived.Test.YtglfjanclopipaaU
namespace Go.Proofs.Ytglfjanclopipaa
set_option linter.unusedSimpArgs false
set_option linter.unusedVariables false
open Go.RowKit Go.Fl

/-- Whether a test holds of each pair. -/
def allYet {α : Type} (p : α → α → Bool) (xs ys : List α) (k : Nat) : Prop := ∀ j (h : j < xs.length) (h' : j < ys.length), j < k → p xs[j] ys[j] = true
theorem allYet_zero {α : Type} (p : α → α → Bool) (xs ys : List α) : allYet p xs ys 0 := fun _ _ _ h => absurd h (by omega)
theorem allYet_succ {α : Type} {p : α → α → Bool} {xs ys : List α} {k : Nat} (h : allYet p xs ys k) (hk : k < xs.length) (hk' : k < ys.length) (hp : p xs[k] ys[k] = true) : allYet p xs ys (k + 1) := fun j hj hj' hjk => by
  by_cases e : j = k
  · subst e; exact hp
  · exact h j hj hj' (by omega)
def pairs {α : Type} (p : α → α → Bool) : List α → List α → Bool
  | [], [] => true
  | x :: xs, y :: ys => p x y && pairs p xs ys
  | _, _ => false
theorem pairs_len {α : Type} {p : α → α → Bool} : ∀ {xs ys : List α}, xs.length ≠ ys.length → pairs p xs ys = false
  | [], [], h => absurd rfl h
  | [], _ :: _, _ => rfl
  | _ :: _, [], _ => rfl
  | x :: xs, y :: ys, h => by unfold pairs; rw [pairs_len (xs := xs) (ys := ys) (fun e => h (by simp [e]))]; simp
theorem pairs_all {α : Type} {p : α → α → Bool} : ∀ {xs ys : List α}, xs.length = ys.length → allYet p xs ys xs.length → pairs p xs ys = true
  | [], [], _, _ => rfl
  | [], _ :: _, h, _ => by cases h
  | _ :: _, [], h, _ => by cases h
  | x :: xs, y :: ys, h, ha => by
    unfold pairs
    rw [show p x y = true from ha 0 (by simp) (by simp) (by simp), pairs_all (by simpa using h) (fun j h1 h2 h3 => by
      have := ha (j + 1) (by simpa using h1) (by simpa using h2) (by simpa using h3)
      simpa using this)]
    rfl
theorem pairs_not {α : Type} {p : α → α → Bool} : ∀ {xs ys : List α} {k : Nat} (h1 : k < xs.length) (h2 : k < ys.length), p xs[k] ys[k] = false → pairs p xs ys = false
  | x :: xs, y :: ys, 0, _, _, h => by unfold pairs; simp only [List.getElem_cons_zero] at h; rw [h]; rfl
  | x :: xs, y :: ys, k + 1, h1, h2, h => by unfold pairs; rw [pairs_not (k := k) (by simpa using h1) (by simpa using h2) (by simpa using h)]; simp
theorem len_beq_false {m n : Nat} (h : m ≠ n) : (((m : Nat) : Int) != ((n : Nat) : Int)) = true := by simp; omega
theorem len_beq_true {m n : Nat} (h : m = n) : (((m : Nat) : Int) != ((n : Nat) : Int)) = false := by subst h; simp
end Go.Proofs.Ytglfjanclopipaa
