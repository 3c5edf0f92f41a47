/- Spectra of small whole loads: how far rounding goes. -/
import Derived.Test.YtmpmnhnobgidoaaVS
namespace Go.Proofs.Ytmpmnhnobgidoaa
set_option linter.unusedSimpArgs false
set_option linter.unusedVariables false
open Go.RowKit Go.Fl Go.Lib

/-! ### Sums of whole numbers -/
theorem sumI_succ (n : Nat) (f : Nat → Int) : sumI (n + 1) f = sumI n f + f n := rfl
theorem sq_pos (a : Int) : 0 ≤ a * a := by
  rcases Int.le_total 0 a with h | h
  · exact Int.mul_nonneg h h
  · have := Int.mul_nonneg (show 0 ≤ -a by omega) (show 0 ≤ -a by omega)
    grind
theorem sumI_congr {n : Nat} {f g : Nat → Int} (h : ∀ k, k < n → f k = g k) : sumI n f = sumI n g := by
  induction n with
  | zero => rfl
  | succ n ih => unfold sumI; rw [ih (fun k hk => h k (by omega)), h n (by omega)]
theorem sumI_add (n : Nat) (f g : Nat → Int) : sumI n (fun k => f k + g k) = sumI n f + sumI n g := by
  induction n with
  | zero => rfl
  | succ n ih => unfold sumI; rw [ih]; omega
theorem sumI_sub (n : Nat) (f g : Nat → Int) : sumI n (fun k => f k - g k) = sumI n f - sumI n g := by
  induction n with
  | zero => rfl
  | succ n ih => unfold sumI; rw [ih]; omega
theorem sumI_mulL (c : Int) (n : Nat) (f : Nat → Int) : sumI n (fun k => c * f k) = c * sumI n f := by
  induction n with
  | zero => unfold sumI; grind
  | succ n ih => unfold sumI; rw [ih, Int.mul_add]
theorem sumI_zero (n : Nat) : sumI n (fun _ => 0) = 0 := by
  induction n with
  | zero => rfl
  | succ n ih => unfold sumI; rw [ih]; rfl
theorem sumI_swap (n m : Nat) (f : Nat → Nat → Int) : sumI n (fun a => sumI m (fun b => f a b)) = sumI m (fun b => sumI n (fun a => f a b)) := by
  induction n with
  | zero => exact (sumI_zero m).symm
  | succ n ih =>
    show sumI n _ + sumI m _ = _
    rw [ih, ← sumI_add]
    exact sumI_congr fun b _ => rfl
theorem sumI_prod (n : Nat) (f g : Nat → Int) : sumI n f * sumI n g = sumI n (fun k => sumI n (fun l => f k * g l)) := by
  have h : ∀ k, sumI n (fun l => f k * g l) = sumI n g * f k := fun k => by rw [sumI_mulL, Int.mul_comm]
  rw [show (fun k => sumI n (fun l => f k * g l)) = fun k => sumI n g * f k from funext h, sumI_mulL, Int.mul_comm]
theorem sumI_single {n k : Nat} (h : k < n) (f : Nat → Int) : sumI n (fun l => if k = l then f l else 0) = f k := by
  induction n with
  | zero => omega
  | succ n ih =>
    rw [sumI_succ]
    by_cases hk : k = n
    · subst hk
      rw [sumI_congr (g := fun _ => 0) (fun l hl => if_neg (by omega)), sumI_zero]
      simp
    · rw [ih (by omega)]
      simp [hk]
theorem sumI_le {n : Nat} {f g : Nat → Int} (h : ∀ k, k < n → f k ≤ g k) : sumI n f ≤ sumI n g := by
  induction n with
  | zero => exact Int.le_refl _
  | succ n ih =>
    have h1 := ih (fun k hk => h k (by omega))
    have h2 := h n (by omega)
    show sumI n f + f n ≤ sumI n g + g n
    omega
theorem sumI_abs (n : Nat) (f : Nat → Int) : ((sumI n f).natAbs : Int) ≤ sumI n (fun k => ((f k).natAbs : Int)) := by
  induction n with
  | zero => exact Int.le_refl _
  | succ n ih =>
    rw [sumI_succ, sumI_succ]
    show ((sumI n f + f n).natAbs : Int) ≤ sumI n _ + ((f n).natAbs : Int)
    omega
/-- The square of a sum. -/
theorem cauchy (n : Nat) (f : Nat → Int) : sumI n f * sumI n f ≤ (n : Int) * sumI n (fun k => f k * f k) := by
  induction n with
  | zero => exact Int.le_refl _
  | succ n ih =>
    show (sumI n f + f n) * (sumI n f + f n) ≤ ((n + 1 : Nat) : Int) * (sumI n (fun k => f k * f k) + f n * f n)
    by_cases h0 : n = 0
    · subst h0
      show (0 + f 0) * (0 + f 0) ≤ 1 * (0 + f 0 * f 0)
      rw [Int.zero_add, Int.zero_add, Int.one_mul]
      exact Int.le_refl _
    generalize sumI n f = S at *
    generalize sumI n (fun k => f k * f k) = Q at *
    generalize f n = a at *
    have h2 : 2 * S * a ≤ Q + (n : Int) * (a * a) := by
      have hn : (0 : Int) < (n : Int) := by omega
      have h3 : 0 ≤ ((n : Int) * a - S) * ((n : Int) * a - S) := sq_pos _
      have h4 : (n : Int) * (2 * S * a) ≤ (n : Int) * (Q + (n : Int) * (a * a)) := by grind
      exact Int.le_of_mul_le_mul_left h4 hn
    push_cast
    grind
/-! ### What the spectrum would be, without rounding -/
section
variable (n : Nat) (L : Nat → Int)
def XI (m k : Nat) : Int := sumI k fun j => L j * CI n (rOf n m j)
def YI (m k : Nat) : Int := sumI k fun j => L j * SI n (rOf n m j)
/-- The sum of the absolute values. -/
def AI (k : Nat) : Int := sumI k fun j => ((L j).natAbs : Int)
def QI : Int := sumI n fun j => L j * L j
def TI (k : Nat) : Int := sumI k fun m => XI n L m n * XI n L m n + YI n L m n * YI n L m n
theorem AI_nonneg (k : Nat) : 0 ≤ AI L k := by
  have := sumI_le (n := k) (f := fun _ => 0) (g := fun j => ((L j).natAbs : Int)) (fun j _ => by omega)
  rwa [sumI_zero] at this
theorem AI_sq : AI L n * AI L n ≤ (n : Int) * QI n L := by
  have := cauchy n (fun j => ((L j).natAbs : Int))
  have e : sumI n (fun k => ((L k).natAbs : Int) * ((L k).natAbs : Int)) = QI n L := sumI_congr fun k _ => by rw [Int.natAbs_mul_self']
  rw [e] at this
  exact this
theorem abs_mul_le {a b c d : Int} (h1 : (a.natAbs : Int) ≤ c) (h2 : (b.natAbs : Int) ≤ d) : ((a * b).natAbs : Int) ≤ c * d := by
  rw [Int.natAbs_mul, Int.natCast_mul]
  exact Int.mul_le_mul h1 h2 (by omega) (by omega)
variable {n L}
theorem XI_le (hn : n ≤ 16) {m : Nat} (h1 : 1 ≤ n) : ∀ k, ((XI n L m k).natAbs : Int) ≤ 2 ^ 27 * AI L k := by
  intro k
  refine Int.le_trans (sumI_abs k _) ?_
  unfold AI
  rw [← sumI_mulL]
  refine sumI_le fun j _ => ?_
  have h := tab_fine ⟨n, by omega⟩ ⟨rOf n m j, by have := rOf_lt (m := m) (k := j) h1; omega⟩ (rOf_lt h1)
  simp only [] at h
  have h3 : ((CI n (rOf n m j)).natAbs : Int) ≤ 2 ^ 27 := by have := h.2.2.1; omega
  rw [show L j * CI n (rOf n m j) = CI n (rOf n m j) * L j from Int.mul_comm _ _]
  exact abs_mul_le h3 (Int.le_refl _)
theorem YI_le (hn : n ≤ 16) {m : Nat} (h1 : 1 ≤ n) : ∀ k, ((YI n L m k).natAbs : Int) ≤ 2 ^ 27 * AI L k := by
  intro k
  refine Int.le_trans (sumI_abs k _) ?_
  unfold AI
  rw [← sumI_mulL]
  refine sumI_le fun j _ => ?_
  have h := tab_fine ⟨n, by omega⟩ ⟨rOf n m j, by have := rOf_lt (m := m) (k := j) h1; omega⟩ (rOf_lt h1)
  simp only [] at h
  have h3 : ((SI n (rOf n m j)).natAbs : Int) ≤ 2 ^ 27 := by have := h.2.2.2; omega
  rw [show L j * SI n (rOf n m j) = SI n (rOf n m j) * L j from Int.mul_comm _ _]
  exact abs_mul_le h3 (Int.le_refl _)
/-- The powers of the spectrum are those of the loads, nearly. -/
theorem parseval (hn : n ≤ 16) (h1 : 1 ≤ n) : ((TI n L n - 2 ^ 54 * ((n : Int) * QI n L)).natAbs : Int) ≤ 2 ^ 35 * (AI L n * AI L n) := by
  have e1 : TI n L n = sumI n (fun k => sumI n (fun l => L k * L l * gram n k l)) := by
    unfold TI XI YI
    have e2 : ∀ m, sumI n (fun j => L j * CI n (rOf n m j)) * sumI n (fun j => L j * CI n (rOf n m j)) + sumI n (fun j => L j * SI n (rOf n m j)) * sumI n (fun j => L j * SI n (rOf n m j)) =
        sumI n (fun k => sumI n (fun l => L k * L l * (CI n (rOf n m k) * CI n (rOf n m l) + SI n (rOf n m k) * SI n (rOf n m l)))) := by
      intro m
      rw [sumI_prod, sumI_prod, ← sumI_add]
      refine sumI_congr fun k _ => ?_
      rw [← sumI_add]
      refine sumI_congr fun l _ => ?_
      grind
    rw [sumI_congr (fun m _ => e2 m), sumI_swap]
    refine sumI_congr fun k _ => ?_
    rw [sumI_swap]
    refine sumI_congr fun l _ => ?_
    unfold gram
    rw [sumI_mulL]
  have e3 : 2 ^ 54 * ((n : Int) * QI n L) = sumI n (fun k => sumI n (fun l => L k * L l * (if k = l then (n : Int) * 2 ^ 54 else 0))) := by
    unfold QI
    rw [← sumI_mulL, ← sumI_mulL]
    refine sumI_congr fun k hk => ?_
    have := sumI_single hk (fun l => L k * L l * ((n : Int) * 2 ^ 54))
    rw [sumI_congr (g := fun l => if k = l then L k * L l * ((n : Int) * 2 ^ 54) else 0) (fun l _ => by split <;> simp), this]
    grind
  rw [e1, e3, ← sumI_sub]
  refine Int.le_trans (sumI_abs n _) ?_
  unfold AI
  rw [sumI_prod, ← sumI_mulL]
  refine sumI_le fun k hk => ?_
  rw [← sumI_sub]
  refine Int.le_trans (sumI_abs n _) ?_
  rw [← sumI_mulL]
  refine sumI_le fun l hl => ?_
  have hg := gram_all ⟨n, by omega⟩ ⟨k, by omega⟩ ⟨l, by omega⟩ hk hl
  simp only [] at hg
  rw [← Int.mul_sub, Int.mul_comm]
  refine abs_mul_le (by omega) ?_
  rw [Int.natAbs_mul, Int.natCast_mul]
  exact Int.le_refl _
end
end Go.Proofs.Ytmpmnhnobgidoaa
