/- Plain laws: crossings. -/
import Derived.Test.YtmpmnhnobgidoaaA
namespace Go.Proofs.Ytmpmnhnobgidoaa
set_option linter.unusedSimpArgs false
set_option linter.unusedVariables false
open Go.RowKit Go.Fl

theorem fge_not (k : FloatKind) (x y : Nat) (hx : isNan k x = false) (hy : isNan k y = false) : fge k x y = !flt k x y := by
  unfold fge flt Ieee.Format.order
  unfold isNan at hx hy
  cases h1 : k.format.read x <;> cases h2 : k.format.read y <;> rw [h1] at hx <;> rw [h2] at hy <;> simp [Ieee.Datum.isNaN] at hx hy <;> simp only [Ieee.Datum.order]
  · generalize compare (Ieee.signed _ _ _) (Ieee.signed _ _ _) = c; cases c <;> rfl
  · rename_i s; cases s <;> rfl
  · rename_i s _ _ _; cases s <;> rfl
  · generalize compare (Bool.toNat _) (Bool.toNat _) = c; cases c <;> rfl
theorem prod_notNan {k : FloatKind} {x y : Nat} (hx : fin k x = true) (hy : fin k y = true) : isNan k (fa .mul k x y) = false := by
  cases hb : floatBits .mul k x y with
  | some r =>
    have : fa .mul k x y = r := by unfold fa; rw [hb]; rfl
    rw [this]
    exact floatBits_notNaN hb
  | none =>
    exfalso
    unfold fin at hx hy
    unfold floatBits Ieee.Format.mul at hb
    cases h1 : k.format.read x <;> cases h2 : k.format.read y <;> rw [h1] at hx hb <;> rw [h2] at hy hb <;> simp [Ieee.Datum.product] at hx hy hb
theorem fin_small : ∀ m : Fin 13, fin .f32 (floatOfInt .f32 ((m.val : Nat) : Int)) = true := by decide +kernel
theorem fin_mult {m : Int} (h0 : 1 ≤ m) (h1 : m ≤ 12) : fin .f32 (floatOfInt .f32 m) = true := by
  obtain ⟨n, rfl⟩ : ∃ n : Nat, m = n := ⟨m.toNat, by omega⟩
  exact fin_small ⟨n, by omega⟩
/-- A multiple of a speed, and whether it lies below the rate. -/
def multOf (m : Int) (x : Nat) : Nat := fa .mul .f32 (floatOfInt .f32 m) x
def lowM (r : Nat) (m : Int) (x : Nat) : Bool := flt .f32 (multOf m x) r
theorem lowM_ge {r : Nat} {m : Int} {x : Nat} (h0 : 1 ≤ m) (h1 : m ≤ 12) (hx : fin .f32 x = true) (hr : fin .f32 r = true) : fge .f32 (multOf m x) r = !lowM r m x :=
  fge_not _ _ _ (prod_notNan (fin_mult h0 h1) hx) (notNan_of_fin hr)
/-- Which pairs are crossings: of the first k speeds of one multiple, and of the first i multiples. -/
def crossRow (r : Nat) (m : Int) (i : Nat) (xs : List Nat) : Nat → List (List Int)
  | 0 => []
  | k + 1 => crossRow r m i xs k ++ (if lowM r m (xs[k]?.getD 0) != lowM r m (xs[k + 1]?.getD 0) then [[(i : Int), (k : Int)]] else [])
def crossTo (r : Nat) (ms : List Int) (xs : List Nat) : Nat → List (List Int)
  | 0 => []
  | i + 1 => crossTo r ms xs i ++ crossRow r (ms[i]?.getD 0) i xs (xs.length - 1)
theorem crossRow_len (r : Nat) (m : Int) (i : Nat) (xs : List Nat) : ∀ k, (crossRow r m i xs k).length ≤ k
  | 0 => Nat.le_refl _
  | k + 1 => by
    have := crossRow_len r m i xs k
    unfold crossRow
    rw [List.length_append]
    split <;> simp <;> omega
theorem crossTo_len (r : Nat) (ms : List Int) (xs : List Nat) : ∀ i, (crossTo r ms xs i).length ≤ i * xs.length
  | 0 => Nat.zero_le _
  | i + 1 => by
    have h1 := crossTo_len r ms xs i
    have h2 := crossRow_len r (ms[i]?.getD 0) i xs (xs.length - 1)
    show (crossTo r ms xs i ++ _).length ≤ _
    rw [List.length_append, Nat.succ_mul]
    omega
end Go.Proofs.Ytmpmnhnobgidoaa
