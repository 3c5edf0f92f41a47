/- Cycles of small whole loads: what they stand for, their damages and their equal ranges. -/
import Derived.Test.YtmpmnhnobgidoaaVD
import Derived.Test.YtmpmnhnobgidoaaYB
import Derived.Test.YtmpmnhnobgidoaaS
import Derived.Test.YtmpmnhnobgidoaaY
import Derived.Test.YtmpmnhnobgidoaaVM
namespace Go.Proofs.Ytmpmnhnobgidoaa
set_option linter.unusedSimpArgs false
set_option linter.unusedVariables false
open Go.RowKit Go.Fl Go.Lib

/-- A small whole number. -/
def IsW (x : Nat) : Prop := ∃ k : Int, x = fi k ∧ -8 ≤ k ∧ k ≤ 8
theorem IsW.rv {x : Nat} (h : IsW x) : ∃ k : Int, Rv .f32 x (k : Rat) ∧ -8 ≤ k ∧ k ≤ 8 := by
  obtain ⟨k, rfl, h1, h2⟩ := h
  exact ⟨k, fi_rv h1 h2, h1, h2⟩
theorem Wh.mem {xs : List Nat} {ks : List Int} (h : Wh xs ks) : ∀ x ∈ xs, IsW x := by
  intro x hx
  rw [h.1] at hx
  obtain ⟨k, hk, rfl⟩ := List.mem_map.1 hx
  exact ⟨k, rfl, h.2 k hk⟩
section
variable {P : Nat → Prop}
structure PInv (P : Nat → Prop) (s : CS) : Prop where
  st : ∀ x ∈ s.1, P x
  cy : ∀ c ∈ s.2, ∃ a b wh, c = pair a b wh ∧ P a ∧ P b
theorem at3_mem {l : List Nat} {i : Nat} (h : 1 ≤ i) (h2 : i ≤ l.length) : at3 l i ∈ l := getD_mem (by omega)
theorem PInv.cst {s : CS} (h : PInv P s) : PInv P (cst s) := by
  unfold Go.Proofs.Ytmpmnhnobgidoaa.cst
  split
  · rename_i hd
    have hl := due_len hd
    refine ⟨?_, ?_⟩
    · show ∀ x ∈ left s.1, _
      unfold left
      split
      · exact fun x hx => h.st x (List.mem_of_mem_tail hx)
      · intro x hx
        rcases List.mem_append.1 hx with hx | hx
        · exact h.st x (List.mem_of_mem_take hx)
        · rw [List.mem_singleton.1 hx]
          exact h.st _ (at3_mem (by omega) (by omega))
    · intro c hc
      rcases List.mem_append.1 hc with hc | hc
      · exact h.cy c hc
      · rw [List.mem_singleton.1 hc]
        exact ⟨_, _, _, rfl, h.st _ (at3_mem (by omega) (by omega)), h.st _ (at3_mem (by omega) (by omega))⟩
  · exact h
theorem PInv.iter {s : CS} (h : PInv P s) : ∀ k, PInv P (iter k s)
  | 0 => h
  | k + 1 => (PInv.iter h k).cst
theorem PInv.push {s : CS} (h : PInv P s) {x : Nat} (hx : P x) : PInv P (push s x) := by
  refine ⟨fun y hy => ?_, h.cy⟩
  rcases List.mem_append.1 hy with hy | hy
  · exact h.st y hy
  · rw [List.mem_singleton.1 hy]; exact hx
theorem cycTo_P (es : List Nat) (hf : ∀ x ∈ es, P x) : ∀ k, k ≤ es.length → PInv P (cycTo es k)
  | 0, _ => ⟨(by intro x hx; cases hx), (by intro c hc; cases hc)⟩
  | k + 1, h => by
    rw [cycTo_succ es k (by omega)]
    exact ((cycTo_P es hf k (by omega)).push (hf _ (List.getElem_mem _))).iter _
theorem endStep_P {zs : List Nat} {x : Nat} (h : ∀ y ∈ zs, P y) (hx : P x) : ∀ y ∈ endStep zs x, P y := by
  have ha : ∀ y ∈ zs ++ [x], P y := fun y hy => by
    rcases List.mem_append.1 hy with hy | hy
    · exact h y hy
    · rw [List.mem_singleton.1 hy]; exact hx
  unfold endStep
  split
  · exact ha
  · split
    · exact h
    · split
      · exact ha
      · split
        · intro y hy
          rcases List.mem_or_eq_of_mem_set hy with hy | rfl
          · exact h y hy
          · exact hx
        · exact ha
theorem foldl_P (xs : List Nat) (h : ∀ x ∈ xs, P x) : ∀ zs : List Nat, (∀ y ∈ zs, P y) → ∀ y ∈ xs.foldl endStep zs, P y := by
  induction xs with
  | nil => exact fun zs hz => hz
  | cons x xs ih => exact fun zs hz => ih (fun y hy => h y (List.mem_cons_of_mem _ hy)) _ (endStep_P hz (h x (List.mem_cons_self ..)))
theorem ends_P {xs : List Nat} (h : ∀ x ∈ xs, P x) : ∀ x ∈ ends xs, P x := foldl_P xs h [] (fun y hy => by cases hy)
theorem cycles_P {xs : List Nat} (h : ∀ x ∈ xs, P x) : ∀ c ∈ cycles xs, ∃ a b wh, c = pair a b wh ∧ P a ∧ P b := by
  have hI := cycTo_P (ends xs) (ends_P h) _ (Nat.le_refl _)
  intro c hc
  unfold cycles at hc
  rcases List.mem_append.1 hc with hc | hc
  · exact hI.cy c hc
  · unfold tails at hc
    obtain ⟨i, hi, rfl⟩ := List.mem_map.1 hc
    have := List.mem_range.1 hi
    exact ⟨_, _, _, rfl, hI.st _ (getD_mem (by omega)), hI.st _ (getD_mem (by omega))⟩
end
/-- A cycle of small whole numbers. -/
def CW2 (c : Cyc) : Prop := ∃ lo hi : Int, c.lo = fi lo ∧ c.hi = fi hi ∧ -8 ≤ lo ∧ lo ≤ hi ∧ hi ≤ 8
theorem pair_W {a b : Nat} (wh : Bool) (ha : IsW a) (hb : IsW b) : CW2 (pair a b wh) := by
  obtain ⟨k, rfl, k1, k2⟩ := ha
  obtain ⟨l, rfl, l1, l2⟩ := hb
  have hk := fi_rv k1 k2
  have hl := fi_rv l1 l2
  unfold pair
  rw [flt_q hl hk]
  by_cases h : (l : Rat) < (k : Rat)
  · have := Rat.intCast_lt_intCast.1 h
    rw [if_pos (by simpa using h)]
    exact ⟨l, k, rfl, rfl, l1, by omega, k2⟩
  · have : ¬ l < k := fun h' => h (Rat.intCast_lt_intCast.2 h')
    rw [if_neg (by simpa using h)]
    exact ⟨k, l, rfl, rfl, k1, by omega, l2⟩
theorem cycles_W {xs : List Nat} (h : ∀ x ∈ xs, IsW x) : ∀ c ∈ cycles xs, CW2 c := fun c hc => by
  obtain ⟨a, b, wh, rfl, ha, hb⟩ := cycles_P h c hc
  exact pair_W wh ha hb
theorem cycles_len {xs : List Nat} (hf : finAll xs = true) : (cycles xs).length ≤ xs.length := by
  have hI := (cycTo_inv (ends xs) (ends_fin hf) _ (Nat.le_refl _)).total
  have he : (ends xs).length ≤ xs.length := by have := ends_length xs []; simpa [ends] using this
  unfold cycles
  rw [List.length_append, tails_length]
  omega
/-- Twice the weight of a cycle, and its range, as whole numbers. -/
def wtN (c : Cyc) : Nat := if c.wh then 2 else 1
theorem wtN_le (c : Cyc) : wtN c ≤ 2 := by unfold wtN; split <;> omega
theorem wt_rv (c : Cyc) : Rv .f32 (wt c) ((wtN c : Int) * Go.Fl.two (-1)) := by
  unfold wt wtN
  split
  · exact ⟨false, 8388608, -23, by decide +kernel, by decide +kernel⟩
  · exact ⟨false, 8388608, -24, by decide +kernel, by decide +kernel⟩
theorem sub_all : ∀ a b : Fin 17, fa .sub .f32 (fi ((a.val : Int) - 8)) (fi ((b.val : Int) - 8)) = fi ((a.val : Int) - (b.val : Int)) := by decide +kernel
theorem CW2.rng {c : Cyc} (h : CW2 c) : ∃ R : Nat, R ≤ 16 ∧ rng c = floatOfInt .f32 (R : Int) := by
  obtain ⟨lo, hi, h1, h2, b1, b2, b3⟩ := h
  refine ⟨(hi - lo).toNat, by omega, ?_⟩
  have := sub_all ⟨(hi + 8).toNat, by omega⟩ ⟨(lo + 8).toNat, by omega⟩
  simp only [] at this
  unfold Go.Proofs.Ytmpmnhnobgidoaa.rng
  rw [h1, h2, show hi = (((hi + 8).toNat : Nat) : Int) - 8 by omega, show lo = (((lo + 8).toNat : Nat) : Int) - 8 by omega, this]
  unfold fi
  congr 1
  omega
theorem areCyc_W {cs : List Cyc} (h : ∀ c ∈ cs, CW2 c) (hl : cs.length ≤ 64) : areCyc cs = true := by
  unfold areCyc
  have : cs.any (fun c => !fin .f32 c.lo || !fin .f32 c.hi || flt .f32 c.hi c.lo) = false := by
    rw [List.any_eq_false]
    intro c hc
    obtain ⟨lo, hi, e1, e2, b1, b2, b3⟩ := h c hc
    have h1 : Rv .f32 c.lo (lo : Rat) := by rw [e1]; exact fi_rv b1 (by omega)
    have h2 : Rv .f32 c.hi (hi : Rat) := by rw [e2]; exact fi_rv (by omega) b3
    rw [h1.fin, h2.fin, flt_q h2 h1]
    have : ¬ (hi : Rat) < (lo : Rat) := fun h' => by have := Rat.intCast_lt_intCast.1 h'; omega
    simp [this]
  rw [this]; simp [hl]
/-! Exact numbers with a power of two. -/
theorem dy_lt {k : FloatKind} {n c : Int} (h : n.natAbs < 2 ^ (fb k + 1)) (hc : c ≤ 0) : Wi ((n : Rat) * Go.Fl.two c) 9007199254740992 := by
  have h1 : Wi (n : Rat) 9007199254740992 := Go.Fl.int_lt (k := k) h
  have h2 : Wi (Go.Fl.two c) 1 := by
    have := two_pos c
    have h3 := two_mono hc
    rw [show Go.Fl.two 0 = 1 from rfl] at h3
    unfold Wi; grind
  exact (h1.mul h2).mono (by decide +kernel)
theorem add_dy {k : FloatKind} {x y : Nat} {a b c : Int} (hx : Rv k x ((a : Rat) * Go.Fl.two c)) (hy : Rv k y ((b : Rat) * Go.Fl.two c)) (h : (a + b).natAbs < 2 ^ (fb k + 1)) (hc : c ≤ 0) (hp : pl k ≤ c) : Rv k (fa .add k x y) (((a + b : Int) : Rat) * Go.Fl.two c) := by
  have e : (a : Rat) * Go.Fl.two c + (b : Rat) * Go.Fl.two c = ((a + b : Int) : Rat) * Go.Fl.two c := by rw [Rat.intCast_add, Rat.add_mul]
  obtain ⟨r, h1, h2⟩ := add_w hx hy (by rw [e]; exact dy_lt h hc) (by decide +kernel)
  rw [e] at h2
  have := h2.ex ⟨a + b, c, rfl, h, hp⟩
  rw [this] at h1; exact h1
theorem mul_dy {k : FloatKind} {x y : Nat} {a b c d : Int} (hx : Rv k x ((a : Rat) * Go.Fl.two c)) (hy : Rv k y ((b : Rat) * Go.Fl.two d)) (h : (a * b).natAbs < 2 ^ (fb k + 1)) (hc : c + d ≤ 0) (hp : pl k ≤ c + d) : Rv k (fa .mul k x y) (((a * b : Int) : Rat) * Go.Fl.two (c + d)) := by
  have e : (a : Rat) * Go.Fl.two c * ((b : Rat) * Go.Fl.two d) = ((a * b : Int) : Rat) * Go.Fl.two (c + d) := by rw [Rat.intCast_mul, two_add]; grind
  obtain ⟨r, h1, h2⟩ := mul_w hx hy (by rw [e]; exact dy_lt h hc) (by decide +kernel)
  rw [e] at h2
  have := h2.ex ⟨a * b, c + d, rfl, h, hp⟩
  rw [this] at h1; exact h1
theorem widen_dy {x : Nat} {q : Rat} (h : Rv .f32 x q) : Rv .f64 (widen x) q := widen_q h
/-- Ranges by 8, and by 1. -/
theorem q8_all : ∀ R : Fin 17, fa .quo .f32 (floatOfInt .f32 (R.val : Int)) 1090519040 = FloatKind.f32.format.nearest false R.val (-3) := by decide +kernel
theorem q1_all : ∀ R : Fin 17, fa .quo .f32 (floatOfInt .f32 (R.val : Int)) 1065353216 = FloatKind.f32.format.nearest false R.val 0 := by decide +kernel
theorem near_dy (n : Nat) (c : Int) (h : n < 16777216) (hc : c ≤ 0) (hp : -149 ≤ c) : Rv .f32 (FloatKind.f32.format.nearest false n c) (((n : Int) : Rat) * Go.Fl.two c) := by
  have hw := dy_lt (k := .f32) (n := (n : Int)) (c := c) (by show _ < 2 ^ 24; omega) hc
  have hd : dq false n c = ((n : Int) : Rat) * Go.Fl.two c := by unfold dq sq; rw [Rat.intCast_natCast]; rfl
  have hb := hw.lt (k := .f32) (by decide +kernel)
  obtain ⟨r, h1, h2⟩ := round_q .f32 false n c (by rw [hd]; exact hb.1) (by rw [hd]; exact hb.2)
  rw [hd] at h2
  have := h2.ex ⟨(n : Int), c, rfl, by show _ < 2 ^ 24; omega, hp⟩
  rw [this] at h1; exact h1
/-- Strengths 8 and 1, as the power of two by which ranges are divided. -/
def isStr (s : Nat) (j : Int) : Prop := (s = 1090519040 ∧ j = -3) ∨ (s = 1065353216 ∧ j = 0)
theorem quo_str {s : Nat} {j : Int} (hs : isStr s j) {c : Cyc} (h : CW2 c) : ∃ R : Nat, R ≤ 16 ∧ rng c = floatOfInt .f32 (R : Int) ∧ Rv .f32 (fa .quo .f32 (rng c) s) (((R : Int) : Rat) * Go.Fl.two j) := by
  obtain ⟨R, hR, e⟩ := h.rng
  refine ⟨R, hR, e, ?_⟩
  rw [e]
  rcases hs with ⟨rfl, rfl⟩ | ⟨rfl, rfl⟩
  · rw [q8_all ⟨R, by omega⟩]; exact near_dy R (-3) (by omega) (by omega) (by omega)
  · rw [q1_all ⟨R, by omega⟩]; exact near_dy R 0 (by omega) (by omega) (by omega)
theorem pow16 {R p : Nat} (hR : R ≤ 16) (hp : p ≤ 4) : R ^ p ≤ 65536 := by
  have h1 : R ^ p ≤ 16 ^ p := Nat.pow_le_pow_left hR p
  have h2 : (16 : Nat) ^ p ≤ 16 ^ 4 := Nat.pow_le_pow_right (by decide) hp
  exact Nat.le_trans h1 h2
theorem times_rv {q x : Nat} {R N : Nat} {j : Int} (hq : Rv .f32 q (((R : Int) : Rat) * Go.Fl.two j)) (hx : Rv .f32 x (((N : Int) : Rat) * Go.Fl.two (-1))) (hR : R ≤ 16) (hN : N ≤ 2) (hj : j ≤ 0) (hj2 : -3 ≤ j) : ∀ p : Nat, p ≤ 4 → Rv .f32 (times q x p) ((((N * R ^ p : Nat) : Int) : Rat) * Go.Fl.two (-1 + (p : Int) * j))
  | 0, _ => by
    have : N * R ^ 0 = N := by simp
    rw [this, show (-1 : Int) + ((0 : Nat) : Int) * j = -1 by simp]
    exact hx
  | p + 1, hp => by
    have ih := times_rv hq hx hR hN hj hj2 p (by omega)
    have hb := pow16 hR (show p + 1 ≤ 4 by omega)
    have e1 : (((N * R ^ (p + 1) : Nat) : Int)) = ((N * R ^ p : Nat) : Int) * (R : Int) := by rw [Nat.pow_succ, ← Nat.mul_assoc]; simp
    have hbd : N * R ^ (p + 1) ≤ 131072 := by
      have := Nat.mul_le_mul hN hb; omega
    have e2 : -1 + ((p + 1 : Nat) : Int) * j = (-1 + (p : Int) * j) + j := by push_cast; grind
    have hjp : (p : Int) * j ≤ 0 ∧ -12 ≤ (p : Int) * j := by
      have : p ≤ 4 := by omega
      match p, this with
      | 0, _ => simp
      | 1, _ => simp; omega
      | 2, _ => omega
      | 3, _ => omega
      | 4, _ => omega
    rw [e1, e2]
    exact mul_dy ih hq (by rw [← e1]; show _ < 2 ^ 24; omega) (by omega) (by show -149 ≤ _; omega)
/-- A range as a whole number. -/
def rngN (c : Cyc) : Nat := match Ieee.single.read (rng c) with | .number _ m e => m * 2 ^ (e + 149).toNat / 2 ^ 149 | _ => 0
/-- A cycle's share of the damage. -/
def cN (p : Nat) (c : Cyc) : Nat := wtN c * (rngN c) ^ p
theorem rngN_is {c : Cyc} {R : Nat} (h : rng c = floatOfInt .f32 (R : Int)) (hR : R ≤ 16) : rngN c = R := by
  unfold rngN
  rw [h]
  have : ∀ R : Fin 17, (match Ieee.single.read (floatOfInt .f32 (R.val : Int)) with | .number _ m e => m * 2 ^ (e + 149).toNat / 2 ^ 149 | _ => 0) = R.val := by decide +kernel
  exact this ⟨R, by omega⟩
def sumN (p : Nat) (cs : List Cyc) : Nat := (cs.map (cN p)).sum
theorem cN_le {p : Nat} (hp : p ≤ 4) {c : Cyc} (h : CW2 c) : cN p c ≤ 131072 := by
  obtain ⟨R, hR, e⟩ := h.rng
  unfold cN
  rw [rngN_is e hR]
  have := Nat.mul_le_mul (wtN_le c) (pow16 hR hp); omega
theorem sumN_le {p : Nat} (hp : p ≤ 4) : ∀ {cs : List Cyc}, (∀ c ∈ cs, CW2 c) → sumN p cs ≤ 131072 * cs.length
  | [], _ => by simp [sumN]
  | c :: cs, h => by
    have h1 := cN_le hp (h c (List.mem_cons_self ..))
    have h2 := sumN_le hp (cs := cs) (fun d hd => h d (List.mem_cons_of_mem _ hd))
    unfold sumN at *
    simp only [List.map_cons, List.sum_cons, List.length_cons]
    omega
theorem sumN_take {p : Nat} (cs : List Cyc) (k : Nat) (hk : k < cs.length) : sumN p (cs.take (k + 1)) = sumN p (cs.take k) + cN p cs[k] := by
  unfold sumN
  rw [List.take_succ_eq_append_getElem hk, List.map_append, List.sum_append]
  simp
theorem damSum_rv {s p : Nat} {j : Int} (hs : isStr s j) (hp : p ≤ 4) {cs : List Cyc} (h : ∀ c ∈ cs, CW2 c) (hl : cs.length ≤ 16) : ∀ k, k ≤ cs.length → Rv .f32 (damSum cs s p k) ((((sumN p (cs.take k) : Nat) : Int) : Rat) * Go.Fl.two (-1 + (p : Int) * j))
  | 0, _ => by
    have : sumN p (cs.take 0) = 0 := by simp [sumN]
    rw [this]
    have e : (((0 : Nat) : Int) : Rat) * Go.Fl.two (-1 + (p : Int) * j) = 0 := by simp
    rw [e]
    exact rv_zero .f32
  | k + 1, hk => by
    have ih := damSum_rv hs hp h hl k (by omega)
    have hc := h cs[k] (List.getElem_mem (by omega))
    obtain ⟨R, hR, e, hq⟩ := quo_str hs hc
    have hj : -3 ≤ j ∧ j ≤ 0 := by rcases hs with ⟨-, rfl⟩ | ⟨-, rfl⟩ <;> omega
    have ht := times_rv hq (wt_rv cs[k]) hR (wtN_le _) hj.2 hj.1 p hp
    have hle := sumN_le hp (cs := cs.take (k + 1)) (fun c hc => h c (List.mem_of_mem_take hc))
    have hlen : (cs.take (k + 1)).length ≤ 16 := by simp; omega
    rw [damSum_succ cs s p k (by omega), sumN_take cs k (by omega)]
    rw [sumN_take cs k (by omega)] at hle
    have hcn : cN p cs[k] = wtN cs[k] * R ^ p := by unfold cN; rw [rngN_is e hR]
    rw [hcn] at hle ⊢
    have hjp : (p : Int) * j ≤ 0 ∧ -12 ≤ (p : Int) * j := by
      match p, hp with
      | 0, _ => simp
      | 1, _ => simp; omega
      | 2, _ => omega
      | 3, _ => omega
      | 4, _ => omega
    have e3 : ((sumN p (cs.take k) + wtN cs[k] * R ^ p : Nat) : Int) = ((sumN p (cs.take k) : Nat) : Int) + ((wtN cs[k] * R ^ p : Nat) : Int) := by push_cast; rfl
    rw [e3]
    exact add_dy ih ht (by rw [← e3]; show _ < 2 ^ 24; omega) (by omega) (by show -149 ≤ _; omega)
end Go.Proofs.Ytmpmnhnobgidoaa
