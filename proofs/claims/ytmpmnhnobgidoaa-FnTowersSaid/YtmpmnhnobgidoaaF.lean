/- Floats: the one NaN, and the laws of arithmetic in a walk. -/
import Derived.WalkKit
import Derived.Laws.FloatArith
import Derived.WalkSpells
import Derived.WalkSmall
import Derived.Deep.Draws
import Derived.Lib.Hide
namespace Go.Fl
set_option linter.unusedSimpArgs false
set_option linter.unusedVariables false
open Go Go.RowKit

def isNan (k : FloatKind) (x : Nat) : Bool := (k.format.read x).isNaN
def qn : FloatKind → Nat
  | .f32 => 2143289344
  | .f64 => 9221120237041090560
/-- the number with one NaN for all -/
def cn (k : FloatKind) (x : Nat) : Nat := if isNan k x then qn k else x
/-- the result with one NaN for all -/
def fa (op : BinOp) (k : FloatKind) (x y : Nat) : Nat := (floatBits op k x y).getD (qn k)

theorem lt_signWeight_infRung (f : Ieee.Format) : f.infRung + f.binade = f.signWeight := f.infRung_add_binade

/-- A word is no NaN where its rung is at most infinity's. -/
theorem read_word_notNaN (f : Ieee.Format) (neg : Bool) {rung : Nat} (h : rung ≤ f.infRung) : (f.read (f.word neg rung)).isNaN = false := by
  have h1 := f.infRung_lt
  have hs : rung < f.signWeight := by omega
  have hr : f.word neg rung % f.signWeight = rung := by
    unfold Ieee.Format.word
    split
    · rw [Nat.add_mod_left, Nat.mod_eq_of_lt hs]
    · exact Nat.mod_eq_of_lt hs
  unfold Ieee.Format.read
  simp only [hr]
  split
  · rfl
  · split
    · rfl
    · rw [if_pos (by omega)]; rfl

theorem nearest_notNaN (f : Ieee.Format) (neg : Bool) (mag : Nat) (place : Int) : (f.read (f.nearest neg mag place)).isNaN = false := by
  unfold Ieee.Format.nearest
  dsimp only
  split
  · exact read_word_notNaN f neg (Nat.zero_le _)
  · exact read_word_notNaN f neg (Nat.min_le_right ..)

theorem write_notNaN (f : Ieee.Format) {d : Ieee.Datum} (h : d.isNaN = false) : (f.read (f.write d)).isNaN = false := by
  cases d with
  | number neg mag place => exact nearest_notNaN f neg mag place
  | infinity neg => exact read_word_notNaN f neg (Nat.le_refl _)
  | nan neg fr => simp [Ieee.Datum.isNaN] at h

theorem sum_notNaN {a b d : Ieee.Datum} (h : a.sum b = some d) : d.isNaN = false := by
  cases a <;> cases b <;> simp [Ieee.Datum.sum] at h <;> first | (obtain ⟨-, rfl⟩ := h; rfl) | (subst h; rfl)
theorem product_notNaN {a b d : Ieee.Datum} (h : a.product b = some d) : d.isNaN = false := by
  cases a <;> cases b <;> simp [Ieee.Datum.product] at h <;> first | (obtain ⟨-, rfl⟩ := h; rfl) | (subst h; rfl)
theorem quotient_notNaN {n : Nat} {a b d : Ieee.Datum} (h : a.quotient n b = some d) : d.isNaN = false := by
  cases a <;> cases b <;> simp [Ieee.Datum.quotient] at h
  all_goals first | (subst h; rfl) | skip
  split at h
  · split at h
    · cases h
    · simp at h; subst h; rfl
  · simp at h; subst h; rfl
theorem root_notNaN {n : Nat} {a d : Ieee.Datum} (h : a.root n = some d) : d.isNaN = false := by
  cases a <;> simp only [Ieee.Datum.root] at h
  · split at h
    · cases h; rfl
    · split at h
      · cases h
      · cases h; rfl
  · split at h
    · cases h
    · cases h; rfl
  · cases h

theorem floatBits_notNaN {op : BinOp} {k : FloatKind} {x y r : Nat} (h : floatBits op k x y = some r) : isNan k r = false := by
  unfold floatBits at h
  unfold isNan
  cases op <;> simp only at h <;> first
    | (cases h; done)
    | (obtain ⟨d, hd, rfl⟩ := Option.map_eq_some_iff.1 h
       exact write_notNaN _ (by first | exact sum_notNaN hd | exact product_notNaN hd | exact quotient_notNaN hd))

theorem isNan_qn (k : FloatKind) : isNan k (qn k) = true := by cases k <;> decide
theorem cn_of_not {k : FloatKind} {x : Nat} (h : isNan k x = false) : cn k x = x := by simp [cn, h]
theorem cn_of_nan {k : FloatKind} {x : Nat} (h : isNan k x = true) : cn k x = qn k := by simp [cn, h]
theorem isNan_cn (k : FloatKind) (x : Nat) : isNan k (cn k x) = isNan k x := by
  unfold cn; split
  · rename_i h; rw [isNan_qn, h]
  · rfl
theorem cn_cn (k : FloatKind) (x : Nat) : cn k (cn k x) = cn k x := by
  by_cases h : isNan k x = true
  · rw [cn_of_nan h, cn_of_nan (isNan_qn k)]
  · have h' : isNan k x = false := by simpa using h
    rw [cn_of_not h', cn_of_not h']
theorem cn_fa (op : BinOp) (k : FloatKind) (x y : Nat) : cn k (fa op k x y) = fa op k x y := by
  unfold fa
  cases h : floatBits op k x y with
  | none => exact cn_of_nan (isNan_qn k)
  | some r => exact cn_of_not (floatBits_notNaN h)

theorem floatBits_nan_left {op : BinOp} {k : FloatKind} {x y : Nat} (h : isNan k x = true) : floatBits op k x y = none := by
  unfold isNan at h
  unfold floatBits
  cases op <;> simp only [Ieee.Format.add, Ieee.Format.sub, Ieee.Format.mul, Ieee.Format.div] <;> cases hx : k.format.read x <;> simp_all [Ieee.Datum.isNaN, Ieee.Datum.sum, Ieee.Datum.product, Ieee.Datum.quotient]
theorem floatBits_nan_right {op : BinOp} {k : FloatKind} {x y : Nat} (h : isNan k y = true) : floatBits op k x y = none := by
  unfold isNan at h
  unfold floatBits
  cases op <;> simp only [Ieee.Format.add, Ieee.Format.sub, Ieee.Format.mul, Ieee.Format.div] <;> cases hy : k.format.read y <;> cases hx : k.format.read x <;>
    simp_all [Ieee.Datum.isNaN, Ieee.Datum.sum, Ieee.Datum.product, Ieee.Datum.quotient, Ieee.Datum.opposite]

/-- Arithmetic looks at a NaN's being one alone. -/
theorem fa_cn_left (op : BinOp) (k : FloatKind) (x y : Nat) : fa op k (cn k x) y = fa op k x y := by
  by_cases h : isNan k x = true
  · unfold fa; rw [floatBits_nan_left h, floatBits_nan_left (by rw [isNan_cn]; exact h)]
  · rw [cn_of_not (by simpa using h)]
theorem fa_cn_right (op : BinOp) (k : FloatKind) (x y : Nat) : fa op k x (cn k y) = fa op k x y := by
  by_cases h : isNan k y = true
  · unfold fa; rw [floatBits_nan_right h, floatBits_nan_right (by rw [isNan_cn]; exact h)]
  · rw [cn_of_not (by simpa using h)]
theorem fa_congr {op : BinOp} {k : FloatKind} {x x' y y' : Nat} (hx : cn k x = cn k x') (hy : cn k y = cn k y') : fa op k x y = fa op k x' y' := by
  rw [← fa_cn_left, ← fa_cn_right, hx, hy, fa_cn_left, fa_cn_right]

/-- Comparisons -/
def od (k : FloatKind) (x y : Nat) : Option Ordering := k.format.order x y
theorem od_nan_left {k : FloatKind} {x y : Nat} (h : isNan k x = true) : k.format.order x y = none := by
  unfold isNan at h
  unfold Ieee.Format.order
  cases hx : k.format.read x <;> simp_all [Ieee.Datum.isNaN, Ieee.Datum.order]
theorem od_nan_right {k : FloatKind} {x y : Nat} (h : isNan k y = true) : k.format.order x y = none := by
  unfold isNan at h
  unfold Ieee.Format.order
  cases hy : k.format.read y <;> cases hx : k.format.read x <;> simp_all [Ieee.Datum.isNaN, Ieee.Datum.order]
theorem od_cn_left (k : FloatKind) (x y : Nat) : k.format.order (cn k x) y = k.format.order x y := by
  by_cases h : isNan k x = true
  · rw [od_nan_left h, od_nan_left (by rw [isNan_cn]; exact h)]
  · rw [cn_of_not (by simpa using h)]
theorem od_cn_right (k : FloatKind) (x y : Nat) : k.format.order x (cn k y) = k.format.order x y := by
  by_cases h : isNan k y = true
  · rw [od_nan_right h, od_nan_right (by rw [isNan_cn]; exact h)]
  · rw [cn_of_not (by simpa using h)]
theorem od_congr {k : FloatKind} {x x' y y' : Nat} (hx : cn k x = cn k x') (hy : cn k y = cn k y') : k.format.order x y = k.format.order x' y' := by
  rw [← od_cn_left, ← od_cn_right, hx, hy, od_cn_left, od_cn_right]
theorem cn_to {k : FloatKind} {r : Nat} {op : BinOp} {x y : Nat} (h : cn k r = fa op k x y) : cn k r = cn k (fa op k x y) := by rw [cn_fa]; exact h

/-- finite -/
def fin (k : FloatKind) (x : Nat) : Bool := match k.format.read x with | .number .. => true | _ => false
theorem fin_cn (k : FloatKind) (x : Nat) : fin k (cn k x) = fin k x := by
  by_cases h : isNan k x = true
  · have h2 := isNan_cn k x
    rw [h] at h2
    unfold isNan at h h2
    unfold fin
    cases hx : k.format.read x <;> cases hy : k.format.read (cn k x) <;> simp_all [Ieee.Datum.isNaN]
  · rw [cn_of_not (by simpa using h)]
theorem fin_congr {k : FloatKind} {x x' : Nat} (hx : cn k x = cn k x') : fin k x = fin k x' := by rw [← fin_cn, hx, fin_cn]
theorem write_zero (k : FloatKind) (i : Int) : k.format.write (.number false 0 i) = 0 := by cases k <;> rfl
theorem order_zero (k : FloatKind) : k.format.order 0 0 = some .eq := by cases k <;> rfl
/-- 'x - x == 0' -/
theorem fin_sub (k : FloatKind) (x : Nat) : (k.format.order (fa .sub k x x) 0 == some .eq) = fin k x := by
  unfold fin fa floatBits Ieee.Format.sub
  cases hx : k.format.read x with
  | number s m i =>
    have : (Ieee.Datum.number s m i).sum (Ieee.Datum.number s m i).opposite = some (.number false 0 i) := by
      simp only [Ieee.Datum.opposite, Ieee.Datum.sum, Ieee.signed, Int.min_self, Int.sub_self]
      cases s <;> simp <;> omega
    simp only [this, Option.map_some, Option.getD_some, write_zero, order_zero]
    rfl
  | infinity s =>
    simp only [Ieee.Datum.opposite, Ieee.Datum.sum]
    cases s <;> simp [od_nan_left (isNan_qn k)]
  | nan s t => simp only [Ieee.Datum.opposite, Ieee.Datum.sum, Option.map_none, Option.getD_none, od_nan_left (isNan_qn k)]; rfl

/-- '<', '<=', '>', '>=', '==' as Bools -/
def flt (k : FloatKind) (x y : Nat) : Bool := k.format.order x y == some .lt
def fle (k : FloatKind) (x y : Nat) : Bool := k.format.order x y == some .lt || k.format.order x y == some .eq
def fgt (k : FloatKind) (x y : Nat) : Bool := k.format.order x y == some .gt
def fge (k : FloatKind) (x y : Nat) : Bool := k.format.order x y == some .gt || k.format.order x y == some .eq
def feq (k : FloatKind) (x y : Nat) : Bool := k.format.order x y == some .eq
def fne (k : FloatKind) (x y : Nat) : Bool := k.format.order x y != some .eq
theorem order_self {k : FloatKind} {x : Nat} (h : isNan k x = false) : k.format.order x x = some .eq := by
  unfold isNan at h
  unfold Ieee.Format.order
  cases hx : k.format.read x <;> rw [hx] at h
  · simp [Ieee.Datum.order]
  · simp [Ieee.Datum.order]
  · simp [Ieee.Datum.isNaN] at h
/-- what is handed back: the number, if it is finite -/
def num (x : Nat) : Nat := if fin .f32 x then x else 0
theorem num_cn (x : Nat) : cn .f32 (num x) = num (cn .f32 x) := by
  unfold num
  rw [fin_cn]
  split
  · rfl
  · rfl
theorem num_congr {x y : Nat} (h : cn .f32 x = cn .f32 y) : cn .f32 (num x) = cn .f32 (num y) := by rw [num_cn, num_cn, h]

/-! ### A 32-bit number as a 64-bit one -/
theorem cut_none (w : Ieee.Toward) (neg : Bool) (n : Nat) : w.cut neg n 0 = n := by
  unfold Ieee.Toward.cut
  have h : min 0 (n.log2 + 2) = 0 := by omega
  simp only [h]
  cases w <;> simp [Nat.mod_one]

theorem read_word_notInf (f : Ieee.Format) (neg : Bool) {rung : Nat} (h : rung < f.infRung) : (f.read (f.word neg rung)).isInfinity = false := by
  have h1 := f.infRung_lt
  have hs : rung < f.signWeight := by omega
  have hr : f.word neg rung % f.signWeight = rung := by
    unfold Ieee.Format.word
    split
    · rw [Nat.add_mod_left, Nat.mod_eq_of_lt hs]
    · exact Nat.mod_eq_of_lt hs
  unfold Ieee.Format.read
  simp only [hr]
  split
  · rfl
  · rfl

/-- A number of the 32-bit format's size is not too great for the 64-bit one. -/
theorem double_fits (neg : Bool) (mag : Nat) (place : Int) (hm : mag < 2 ^ 53) (h1 : -1074 ≤ place) (h2 : place ≤ 900) : (Ieee.double.read (Ieee.double.nearest neg mag place)).isInfinity = false := by
  unfold Ieee.Format.nearest
  split
  · exact read_word_notInf _ _ (by decide)
  · rename_i hne
    have hL : mag.log2 < 53 := (Nat.log2_lt hne).2 hm
    have hLm : mag < 2 ^ (mag.log2 + 1) := Nat.lt_log2_self
    have hlp : Ieee.double.leastPlace = -1074 := by decide
    have hfb : Ieee.double.fractionBits = 52 := rfl
    have hbi : Ieee.double.binade = 4503599627370496 := by decide
    have hir : Ieee.double.infRung = 2047 * 4503599627370496 := by decide
    dsimp only
    generalize hl : max (place + (mag.log2 : Int) - (Ieee.double.fractionBits : Nat)) Ieee.double.leastPlace = last
    have hle : last ≤ place := by omega
    have hd : (last - place).toNat = 0 := by omega
    rw [hd, cut_none]
    refine read_word_notInf _ _ (Nat.lt_of_le_of_lt (Nat.min_le_left ..) ?_)
    have hk : mag <<< (place - last).toNat < 2 ^ 53 := by
      rw [Nat.shiftLeft_eq]
      have h3 : 2 ^ (mag.log2 + 1) * 2 ^ (place - last).toNat ≤ 2 ^ 53 := by
        rw [← Nat.pow_add]
        exact Nat.pow_le_pow_right (by decide) (by omega)
      exact Nat.lt_of_lt_of_le (Nat.mul_lt_mul_of_pos_right hLm (Nat.two_pow_pos _)) h3
    rw [hbi, hir, hlp]
    generalize mag <<< (place - last).toNat = kept at *
    have h4 : (last - -1074).toNat ≤ 2044 := by omega
    have h5 := Nat.mul_le_mul_right 4503599627370496 h4
    omega

theorem single_read (x : Nat) {s : Bool} {m : Nat} {e : Int} (h : Ieee.single.read x = .number s m e) : m < 2 ^ 24 ∧ -149 ≤ e ∧ e ≤ 104 := by
  have hlp : Ieee.single.leastPlace = -149 := by decide
  have hbi : Ieee.single.binade = 8388608 := by decide
  have hir : Ieee.single.infRung = 255 * 8388608 := by decide
  unfold Ieee.Format.read at h
  simp only [hlp, hbi, hir] at h
  split at h
  · cases h; omega
  · split at h
    · cases h
      refine ⟨?_, by omega, ?_⟩
      · have := Nat.mod_lt (x % Ieee.single.signWeight) (show 8388608 > 0 by decide); omega
      · omega
    · split at h <;> cases h

/-- 'float64(x)' -/
def widen (x : Nat) : Nat := match FloatKind.f32.decode x with
  | .nan _ _ => qn .f64
  | d => FloatKind.f64.encode d
theorem widen_notNaN {x : Nat} (h : isNan .f32 x = false) : isNan .f64 (widen x) = false := by
  unfold isNan at *
  unfold widen
  change ((FloatKind.f32.decode x).isNaN) = false at h
  cases hx : FloatKind.f32.decode x <;> rw [hx] at h
  · exact write_notNaN _ rfl
  · exact write_notNaN _ rfl
  · cases h
theorem widen_nan {x : Nat} (h : isNan .f32 x = true) : widen x = qn .f64 := by
  unfold isNan at h
  unfold widen
  change ((FloatKind.f32.decode x).isNaN) = true at h
  cases hx : FloatKind.f32.decode x <;> rw [hx] at h <;> first | rfl | cases h
theorem cn_widen (x : Nat) : cn .f64 (widen x) = widen x := by
  by_cases h : isNan .f32 x = true
  · rw [widen_nan h, cn_of_nan (isNan_qn _)]
  · exact cn_of_not (widen_notNaN (by simpa using h))
theorem widen_congr {x y : Nat} (h : cn .f32 x = cn .f32 y) : widen x = widen y := by
  have h2 : isNan .f32 x = isNan .f32 y := by rw [← isNan_cn, h, isNan_cn]
  by_cases hx : isNan .f32 x = true
  · rw [widen_nan hx, widen_nan (by rw [← h2]; exact hx)]
  · have hx' : isNan .f32 x = false := by simpa using hx
    rw [cn_of_not hx', cn_of_not (by rw [← h2]; exact hx')] at h
    rw [h]

def arith : BinOp → Bool
  | .add | .sub | .mul | .quo => true
  | _ => false

theorem nan_of_rung (f : Ieee.Format) (v : Nat) (h : f.infRung < v % f.signWeight) (_ : f.binade ≤ f.infRung) : (f.read v).isNaN = true := by
  unfold Ieee.Format.read
  simp only
  rw [if_neg (by omega), if_neg (by omega), if_neg (by omega)]
  rfl

theorem rung_of (a b s i m : Nat) (ha : a < m) (hs : i + 1 + m ≤ s) : (b * s + i + 1 + a) % s = i + 1 + a := by
  rw [Nat.add_assoc, Nat.add_assoc, Nat.add_comm, Nat.add_mul_mod_self_right, Nat.mod_eq_of_lt (by omega)]
  omega

theorem nanBits_cut (k : FloatKind) (x y t : Nat) : isNan k ((Question.nanBits k x y).cut t) = true := by
  cases k
  · refine nan_of_rung _ _ ?_ (by decide)
    show _ < (t % 2 * 2 ^ 31 + 0x7f800000 + 1 + t / 2 % (2 ^ 23 - 1)) % 2 ^ 31
    rw [rung_of (t / 2 % (2 ^ 23 - 1)) (t % 2) (2 ^ 31) 0x7f800000 (2 ^ 23 - 1) (Nat.mod_lt _ (by decide)) (by decide)]
    show 2139095040 < _
    omega
  · refine nan_of_rung _ _ ?_ (by decide)
    show _ < (t % 2 * 2 ^ 63 + 0x7ff0000000000000 + 1 + t / 2 % (2 ^ 52 - 1)) % 2 ^ 63
    rw [rung_of (t / 2 % (2 ^ 52 - 1)) (t % 2) (2 ^ 63) 0x7ff0000000000000 (2 ^ 52 - 1) (Nat.mod_lt _ (by decide)) (by decide)]
    show 9218868437227405312 < _
    omega

section
variable {P : Program}
/-- What '+', '-', '*', '/' give, in a world that may have been asked for a NaN's bits. -/
theorem run_fa (w : World) (op : BinOp) (t : TypeId) (k : FloatKind) (x y : Nat) (h : arith op = true) :
    ∃ r n, (binOp op t (.float k x) (.float k y)).run P w = .ok (.float k r) (w.drewN n) ∧ cn k r = fa op k x y := by
  cases hb : floatBits op k x y with
  | some r => exact ⟨r, 0, run_float_arith w op t k x y r hb, by rw [cn_of_not (floatBits_notNaN hb)]; simp [fa, hb]⟩
  | none =>
    refine ⟨(Question.nanBits k x y).cut (w.tape w.drawn (.nanBits k x y)), 1, ?_, ?_⟩
    · unfold floatBits at hb
      cases op <;> simp only [arith] at h <;> first | (cases h; done) | skip
      all_goals (simp only at hb; simp [binOp, Op.floatArith, hb, choose, Sem.run, Question.forced, World.drewN])
    · rw [cn_of_nan (nanBits_cut k x y _)]; simp [fa, hb]

/-- A function with a body is entered. -/
theorem run_enter {f : FuncId} {fn : Func} {c : Code} (hf : P.funcs[f]? = some fn) (hname : (fn.name == "runtime.NumGoroutine") = false) (hb : fn.body = some c) (args : Array Value) (w : World) :
    (callFunc f args).run P w = .ok (.enter f args) w := by
  have hname' : ¬ fn.name = "runtime.NumGoroutine" := by simpa using hname
  simp [callFunc, hf, hname', hb]

@[go_sem] theorem run_store_float (w : World) (a : Addr) (m : Mode) (k : FloatKind) (b : Nat) : (store a (.float k b) m).run P w = stored P w a (.float k b) m := run_store P w a _ m rfl
@[go_sem] theorem run_store_complex (w : World) (a : Addr) (m : Mode) (k : FloatKind) (x y : Nat) : (store a (.complex k x y) m).run P w = stored P w a (.complex k x y) m := run_store P w a _ m rfl

theorem nanConv_cut (k : FloatKind) (b t : Nat) : isNan k ((Question.nanConv k b).cut t) = true := by
  have := nanBits_cut k 0 0 t
  cases k <;> exact this

theorem run_widen (w : World) (src dst : TypeId) (x : Nat) (hs : (P.underlying src).isSome = true) (hd : P.underlying dst = some (.float .f64)) :
    ∃ r n, (convert src dst (.float .f32 x)).run P w = .ok (.float .f64 r) (w.drewN n) ∧ cn .f64 r = widen x := by
  obtain ⟨u, hs'⟩ := Option.isSome_iff_exists.1 hs
  have hne : ¬ (FloatKind.f32 = FloatKind.f64) := by decide
  cases hx : FloatKind.f32.decode x with
  | number s m e =>
    have hb := single_read x hx
    have hi : (FloatKind.f64.decode (FloatKind.f64.encode (.number s m e))).isInfinity = false := double_fits s m e (by omega) (by omega) (by omega)
    refine ⟨FloatKind.f64.encode (.number s m e), 0, ?_, ?_⟩
    · cases u <;> simp [convert, run_underlying hs', run_underlying hd, Conv.floatToFloat, hx, hi, hne, World.drewN_zero]
    · have h2 := cn_widen x
      unfold widen at h2 ⊢
      rw [hx] at h2 ⊢
      exact h2
  | infinity s =>
    refine ⟨FloatKind.f64.encode (.infinity s), 0, ?_, ?_⟩
    · cases u <;> simp [convert, run_underlying hs', run_underlying hd, Conv.floatToFloat, hx, hne, World.drewN_zero]
    · have h2 := cn_widen x
      unfold widen at h2 ⊢
      rw [hx] at h2 ⊢
      exact h2
  | nan s t =>
    refine ⟨(Question.nanConv .f64 x).cut (w.tape w.drawn (.nanConv .f64 x)), 1, ?_, ?_⟩
    · cases u <;> simp [convert, run_underlying hs', run_underlying hd, Conv.floatToFloat, hx, hne, choose, Sem.run, Question.forced, World.drewN]
    · rw [cn_of_nan (nanConv_cut .f64 x _)]
      unfold widen
      rw [hx]

variable {ops : Array Oper} {rest : List Oper} {o : Oper} {a : Act} {w : World} {Q : Exit → Act → World → Prop}
theorem hrfl {α : Type} (x : α) : Hid (x = x) := rfl

/-- '+', '-', '*', '/' on floats, in a walk. -/
theorem wpList_fa {op : BinOp} {t tk : TypeId} {x y : Operand} {k : FloatKind} {X Y sx sy : Nat} (ho : o.op = .binOp op t x y tk) (hop : arith op = true) (hw : Region.wanted o (yielded ops a.tmps) = true)
    (hx : a.eval x = .float k X) (hy : a.eval y = .float k Y) (hX : Hid (cn k X = sx)) (hY : Hid (cn k Y = sy))
    (h : ∀ r n, Hid (cn k r = fa op k sx sy) → wpList P ops Q rest (a.put o.dst (.float k r)) (w.drewN n)) : wpList P ops Q (o :: rest) a w := by
  obtain ⟨r, n, hr, hc⟩ := run_fa (P := P) w op t k X Y hop
  refine wpList_step fun K hK => ?_
  rw [if_pos hw]
  unfold Oper.wp execOp
  have hg : (eqGuard op t x y (.float k X) (.float k Y)).run P w = .ok () w := by
    cases op <;> simp [arith] at hop <;> simp [eqGuard]
  simp only [ho, hx, hy, Sem.run_bind, Sem.run_pure, hg, hr, Result.andThen_ok]
  exact hK _ _ (h r n (by show _ = _; rw [hc, ← hX.out, ← hY.out, fa_cn_left, fa_cn_right]))

/-- 'float64(x)', in a walk. -/
theorem wpList_widen {src dst : TypeId} {x : Operand} {X : Nat} (ho : o.op = .convert src dst x) (hw : Region.wanted o (yielded ops a.tmps) = true)
    (hx : a.eval x = .float .f32 X) (hs : (P.underlying src).isSome = true) (hd : P.underlying dst = some (.float .f64)) {sx : Nat} (hX : Hid (cn .f32 X = sx))
    (h : ∀ r n, Hid (cn .f64 r = widen sx) → wpList P ops Q rest (a.put o.dst (.float .f64 r)) (w.drewN n)) : wpList P ops Q (o :: rest) a w := by
  obtain ⟨r, n, hr, hc⟩ := run_widen (P := P) w src dst X hs hd
  refine wpList_step fun K hK => ?_
  rw [if_pos hw]
  unfold Oper.wp execOp
  simp only [ho, hx, Sem.run_bind, Sem.run_pure, hr, Result.andThen_ok]
  exact hK _ _ (h r n (by show _ = _; rw [hc, ← hX.out]; exact widen_congr (cn_cn _ _).symm))
end
end Go.Fl
