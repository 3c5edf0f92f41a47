/- Walks: the damage of cycles. -/
import Derived.Test.YtmpajgpnbiaoiaaK
namespace Go.Proofs.Ytmpajgpnbiaoiaa
set_option linter.unusedSimpArgs false
set_option linter.unusedVariables false
open Go.RowKit Go.Fl

theorem CycAt.drewN {w : World} {b o : Nat} {c : Cyc} (h : CycAt w b o c) (n : Nat) : CycAt (w.drewN n) b o c := h
def wt (c : Cyc) : Nat := if c.wh then 1065353216 else 1056964608
/-- x times q, n times. -/
def times (q x : Nat) : Nat → Nat
  | 0 => x
  | n + 1 => fa .mul .f32 (times q x n) q
def dam1 (c : Cyc) (s p : Nat) : Nat := times (fa .quo .f32 (rng c) s) (wt c) p
def damSum (cs : List Cyc) (s p : Nat) : Nat → Nat
  | 0 => 0
  | k + 1 => fa .add .f32 (damSum cs s p k) (dam1 (cs.getD k zeroCyc) s p)
def inside (p a b : Int) : Bool := decide (a ≤ p) && decide (p ≤ b)
def damGood (cs : List Cyc) (s : Nat) (p : Int) : Bool := areCyc cs && above s && inside p 1 12
theorem cn_wt (c : Cyc) : cn .f32 (wt c) = wt c := by unfold wt; split <;> rfl
theorem cn_times (q x n : Nat) (hx : cn .f32 x = x) : cn .f32 (times q x n) = times q x n := by
  cases n with
  | zero => exact hx
  | succ n => exact cn_fa _ _ _ _
theorem cn_damSum (cs : List Cyc) (s p k : Nat) : cn .f32 (damSum cs s p k) = damSum cs s p k := by
  cases k with
  | zero => rfl
  | succ k => exact cn_fa _ _ _ _
theorem damSum_succ (cs : List Cyc) (s p k : Nat) (hk : k < cs.length) : damSum cs s p (k + 1) = fa .add .f32 (damSum cs s p k) (dam1 cs[k] s p) := by simp [damSum, hk]
theorem s_l00In (p a b : Int) (w : World) : Calls Try.prog 58 #[.int .i64 p, .int .i64 a, .int .i64 b] w fun e w' => e = .returned (.bool (inside p a b)) ∧ ∃ n, w' = w.drewN n := by
  by_cases h : a ≤ p
  all_goals
    go_enter Try.func58, Try.ntmps58
    go_wp2
    go_ret
    exact ⟨by first | (simp [inside, h]; done) | (simp [inside]; omega), 0, rfl⟩
theorem i_within (p a b : Int) (w : World) : Calls Try.prog 64 #[.int .i64 p, .int .i64 a, .int .i64 b] w fun e w' => e = .returned (.bool (inside p a b)) ∧ ∃ n, w' = w.drewN n := by
  by_cases h : a ≤ p
  all_goals
    go_enter Try.func64, Try.ntmps64
    go_wp2
    go_ret
    exact ⟨by first | (simp [inside, h]; done) | (simp [inside]; omega), 0, rfl⟩
theorem s_l07Weight (b o : Nat) (c : Cyc) (w : World) (h : CycAt w b o c) : Calls Try.prog 59 #[.pointer (some ⟨b, o, none⟩)] w fun e w' => e = .returned (.float .f32 (wt c)) ∧ ∃ n, w' = w.drewN n := by
  obtain ⟨lo, hi, wh⟩ := c
  obtain ⟨h1, h2, h3⟩ := h
  simp only at h1 h2 h3
  cases wh
  all_goals
    go_enter Try.func59, Try.ntmps59
    go_wp2
    go_ret
    exact ⟨rfl, 0, rfl⟩
theorem i_weightOf (c : Cyc) (w : World) : Calls Try.prog 65 #[cyc c] w fun e w' => e = .returned (.float .f32 (wt c)) ∧ Below w.heap.size w w' := by
  obtain ⟨lo, hi, wh⟩ := c
  cases wh
  all_goals
    go_enter Try.func65, Try.ntmps65
    go_wp2
    go_ret
    exact ⟨rfl, (by repeat (first | exact Below.refl _ _ | assumption | refine below_drewN ?_ _ | refine below_alloc (Nat.le_refl _) ?_ _ | (refine Below.setCell ?_ (by first | exact Nat.le_refl _ | (simp; done) | (simp; omega) | omega) _) | (refine below_step (Nat.le_refl _) ?_ (by assumption))))⟩
def DamRel (F G : Nat) (f : FuncId) (args : Array Value) (u : Value) : Prop := ∀ c, args = #[cyc c] → (f = F → ∃ r, u = .float .f32 r ∧ cn .f32 r = rng c) ∧ (f = G → u = .float .f32 (wt c))
theorem rng_ne_wt : (54 : Nat) ≠ 65 := by decide
end Go.Proofs.Ytmpajgpnbiaoiaa
