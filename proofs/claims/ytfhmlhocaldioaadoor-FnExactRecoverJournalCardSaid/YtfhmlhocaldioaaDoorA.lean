/- Walks: finite numbers, slices searched by a function. -/
import Derived.Test.YtfhmlhocaldioaaDoorRows
import Derived.Test.YtfhmlhocaldioaaDoorR
namespace Go.Proofs.YtfhmlhocaldioaaDoor
set_option linter.unusedSimpArgs false
set_option linter.unusedVariables false
open Go.RowKit Go.Fl

theorem below_step {B : Nat} {a b c : World} (hB : B ≤ a.heap.size) (h1 : Below B a b) (h2 : Below b.heap.size b c) : Below B a c :=
  h1.trans (h2.mono (Nat.le_trans hB h1.size))

theorem below_alloc {B : Nat} {a b : World} (hB : B ≤ a.heap.size) (h : Below B a b) (o : Obj) : Below B a (b.alloc o) := h.alloc (Nat.le_trans hB h.size) o

/-- A slice value of n elements, whose cells, one behind the other, are cs. -/
def Sl (w : World) (v : Value) (n : Nat) (cs : List Value) : Prop :=
  ∃ p cap, v = .slice p n cap ∧ n ≤ 281474976710656 ∧ (n = 0 ∨ ∃ b off, p = some ⟨b, off, none⟩ ∧ ∀ j u, cs[j]? = some u → w.cell? ⟨b, off + j, none⟩ = some u)
/-- A slice of 32-bit numbers. -/
def RF (w : World) (v : Value) (xs : List Nat) : Prop := Sl w v xs.length (xs.map (Value.float .f32))
theorem Sl.drewN {w : World} {v : Value} {n : Nat} {cs : List Value} (h : Sl w v n cs) (k : Nat) : Sl (w.drewN k) v n cs := h
theorem RF.drewN {w : World} {v : Value} {xs : List Nat} (h : RF w v xs) (k : Nat) : RF (w.drewN k) v xs := h

/-- what an index is, -1 for none -/
def idxOf (o : Option Nat) : Int := match o with | some i => i | none => -1
def noneYet {α : Type} (p : α → Bool) (xs : List α) (k : Nat) : Prop := ∀ j (h : j < xs.length), j < k → p xs[j] = false
theorem noneYet_zero {α : Type} (p : α → Bool) (xs : List α) : noneYet p xs 0 := fun _ _ h => absurd h (by omega)
theorem noneYet_succ {α : Type} {p : α → Bool} {xs : List α} {k : Nat} (h : noneYet p xs k) (hk : k < xs.length) (hp : p xs[k] = false) : noneYet p xs (k + 1) := fun j hj hjk => by
  by_cases e : j = k
  · subst e; exact hp
  · exact h j hj (by omega)
theorem idxOf_found {α : Type} {p : α → Bool} {xs : List α} {k : Nat} (h : noneYet p xs k) (hk : k < xs.length) (hp : p xs[k] = true) : idxOf (xs.findIdx? p) = (k : Int) := by
  have : xs.findIdx? p = some k := by
    rw [List.findIdx?_eq_some_iff_getElem]
    exact ⟨hk, hp, fun j hj => by rw [h j (by omega) hj]; simp⟩
  rw [this]; rfl
theorem idxOf_none {α : Type} {p : α → Bool} {xs : List α} {k : Nat} (h : noneYet p xs k) (hk : xs.length ≤ k) : idxOf (xs.findIdx? p) = -1 := by
  have : xs.findIdx? p = none := by
    rw [List.findIdx?_eq_none_iff]
    intro x hx
    obtain ⟨j, hj, rfl⟩ := List.getElem_of_mem hx
    exact h j hj (by omega)
  rw [this]; rfl
theorem idxOf_ge {α : Type} (p : α → Bool) (xs : List α) : decide (0 ≤ idxOf (xs.findIdx? p)) = xs.any p := by
  cases h : xs.findIdx? p with
  | none =>
    rw [List.findIdx?_eq_none_iff] at h
    have : xs.any p = false := by rw [List.any_eq_false]; intro x hx; rw [h x hx]; decide
    rw [this]; rfl
  | some i =>
    rw [List.findIdx?_eq_some_iff_getElem] at h
    obtain ⟨hi, hp, -⟩ := h
    have : xs.any p = true := by rw [List.any_eq_true]; exact ⟨_, List.getElem_mem hi, hp⟩
    rw [this]; simp [idxOf]
def finAll (xs : List Nat) : Bool := xs.all (fin .f32)
/-- finite and greater than 0 -/
def above (x : Nat) : Bool := fin .f32 x && fgt .f32 x 0
def aboveAll (xs : List Nat) : Bool := xs.all above
/-- finite and at least 0 -/
def least (x : Nat) : Bool := fin .f32 x && fge .f32 x 0
theorem fle_not (k : FloatKind) (x y : Nat) (hx : isNan k x = false) (hy : isNan k y = false) : fle k x y = !fgt k x y := by
  unfold fle fgt Ieee.Format.order
  unfold isNan at hx hy
  cases h1 : k.format.read x <;> cases h2 : k.format.read y <;> rw [h1] at hx <;> rw [h2] at hy <;> simp [Ieee.Datum.isNaN] at hx hy <;> simp only [Ieee.Datum.order]
  · generalize compare (Ieee.signed _ _ _) (Ieee.signed _ _ _) = c; cases c <;> rfl
  · rename_i s; cases s <;> rfl
  · rename_i s _ _ _; cases s <;> rfl
  · generalize compare (Bool.toNat _) (Bool.toNat _) = c; cases c <;> rfl
theorem notNan_of_fin {k : FloatKind} {x : Nat} (h : fin k x = true) : isNan k x = false := by
  unfold fin at h; unfold isNan
  cases hx : k.format.read x <;> rw [hx] at h <;> first | rfl | cases h
theorem not_above (x : Nat) : (!fin .f32 x || fle .f32 x 0) = !above x := by
  unfold above
  cases h : fin .f32 x with
  | false => rfl
  | true => rw [fle_not _ _ _ (notNan_of_fin h) (by decide)]; rfl
end Go.Proofs.YtfhmlhocaldioaaDoor
