/- Towers of a few numbers: all their answers, one by one. -/
import Derived.Test.YtmpmnhnobgidoaaVM
import Derived.Test.YtmpmnhnobgidoaaO
import Derived.Test.YtmpmnhnobgidoaaWE
namespace Go.Proofs.Ytmpmnhnobgidoaa
set_option linter.unusedSimpArgs false
set_option linter.unusedVariables false
open Go.RowKit Go.Fl Go.Lib

/-! The answer of a tower, as words. -/
def awW (r : Nat) : Nat := fa .mul .f32 1086918619 r
def b1W (m r : Nat) : Nat := fa .mul .f32 m (awW r)
def b2W (m r : Nat) : Nat := fa .mul .f32 (b1W m r) (awW r)
def axW (m s r : Nat) : Nat := fa .sub .f32 s (b2W m r)
def ayW (d r : Nat) : Nat := fa .mul .f32 d (awW r)
def nyW (d r : Nat) : Nat := Op.negFloat .f32 (ayW d r)
def ONE : Nat := 4607182418800017408
def k1W (m s r : Nat) : Nat := fa .mul .f64 ONE (widen (axW m s r))
def k2W (d r : Nat) : Nat := fa .mul .f64 0 (widen (nyW d r))
def tAW (m d s r : Nat) : Nat := fa .sub .f64 (k1W m s r) (k2W d r)
def k3W (d r : Nat) : Nat := fa .mul .f64 ONE (widen (nyW d r))
def k4W (m s r : Nat) : Nat := fa .mul .f64 0 (widen (axW m s r))
def tBW (m d s r : Nat) : Nat := fa .add .f64 (k3W d r) (k4W m s r)
def sq1 (x : Nat) : Nat := fa .mul .f64 (widen x) (widen x)
def pwW (x y : Nat) : Nat := fa .add .f64 (sq1 x) (sq1 y)
def pYW (m d s r : Nat) : Nat := pwW (axW m s r) (ayW d r)
def qAW (m d s r : Nat) : Nat := fa .quo .f64 (tAW m d s r) (pYW m d s r)
def qBW (m d s r : Nat) : Nat := fa .quo .f64 (tBW m d s r) (pYW m d s r)
def ansRe (m d s r : Nat) : Nat := narrow (qAW m d s r)
def ansIm (m d s r : Nat) : Nat := narrow (qBW m d s r)
def gpW (m d s r : Nat) : Nat := pwW (ansRe m d s r) (ansIm m d s r)
def grW (m d s r : Nat) : Nat := rt .f64 (gpW m d s r)
def gainW (m d s r : Nat) : Nat := narrow (grW m d s r)
/-- All that is on the way is finite. -/
structure AnsOk (m d s r : Nat) : Prop where
  fr : above r = true
  faw : fin .f32 (awW r) = true
  fb1 : fin .f32 (b1W m r) = true
  fb2 : fin .f32 (b2W m r) = true
  fax : fin .f32 (axW m s r) = true
  fay : fin .f32 (ayW d r) = true
  fny : fin .f32 (nyW d r) = true
  fk1 : fin .f64 (k1W m s r) = true
  fk2 : fin .f64 (k2W d r) = true
  ftA : fin .f64 (tAW m d s r) = true
  fk3 : fin .f64 (k3W d r) = true
  fk4 : fin .f64 (k4W m s r) = true
  ftB : fin .f64 (tBW m d s r) = true
  fx2 : fin .f64 (sq1 (axW m s r)) = true
  fy2 : fin .f64 (sq1 (ayW d r)) = true
  fpY : fin .f64 (pYW m d s r) = true
  fqA : fin .f64 (qAW m d s r) = true
  fqB : fin .f64 (qBW m d s r) = true
  fre : fin .f32 (ansRe m d s r) = true
  fim : fin .f32 (ansIm m d s r) = true
  fg1 : fin .f64 (sq1 (ansRe m d s r)) = true
  fg2 : fin .f64 (sq1 (ansIm m d s r)) = true
  fgp : fin .f64 (gpW m d s r) = true
  fgr : fin .f64 (grW m d s r) = true
  fgn : fin .f32 (gainW m d s r) = true
instance (m d s r : Nat) : Decidable (AnsOk m d s r) :=
  decidable_of_iff (above r = true ∧ fin .f32 (awW r) = true ∧ fin .f32 (b1W m r) = true ∧ fin .f32 (b2W m r) = true ∧ fin .f32 (axW m s r) = true ∧ fin .f32 (ayW d r) = true ∧ fin .f32 (nyW d r) = true ∧ fin .f64 (k1W m s r) = true ∧ fin .f64 (k2W d r) = true ∧ fin .f64 (tAW m d s r) = true ∧ fin .f64 (k3W d r) = true ∧ fin .f64 (k4W m s r) = true ∧ fin .f64 (tBW m d s r) = true ∧ fin .f64 (sq1 (axW m s r)) = true ∧ fin .f64 (sq1 (ayW d r)) = true ∧ fin .f64 (pYW m d s r) = true ∧ fin .f64 (qAW m d s r) = true ∧ fin .f64 (qBW m d s r) = true ∧ fin .f32 (ansRe m d s r) = true ∧ fin .f32 (ansIm m d s r) = true ∧ fin .f64 (sq1 (ansRe m d s r)) = true ∧ fin .f64 (sq1 (ansIm m d s r)) = true ∧ fin .f64 (gpW m d s r) = true ∧ fin .f64 (grW m d s r) = true ∧ fin .f32 (gainW m d s r) = true)
    ⟨fun ⟨a1, a2, a3, a4, a5, a6, a7, a8, a9, a10, a11, a12, a13, a14, a15, a16, a17, a18, a19, a20, a21, a22, a23, a24, a25⟩ => ⟨a1, a2, a3, a4, a5, a6, a7, a8, a9, a10, a11, a12, a13, a14, a15, a16, a17, a18, a19, a20, a21, a22, a23, a24, a25⟩,
     fun ⟨a1, a2, a3, a4, a5, a6, a7, a8, a9, a10, a11, a12, a13, a14, a15, a16, a17, a18, a19, a20, a21, a22, a23, a24, a25⟩ => ⟨a1, a2, a3, a4, a5, a6, a7, a8, a9, a10, a11, a12, a13, a14, a15, a16, a17, a18, a19, a20, a21, a22, a23, a24, a25⟩⟩
/-- Two numbers are no more than a hundredth apart. -/
structure GapOk (x y : Nat) : Prop where
  fx : fin .f64 x = true
  fy : fin .f64 y = true
  fg : fin .f64 (gap x y) = true
  fle : (FloatKind.f64.format.order (gap x y) 4576918229304087675 == some .gt) = false
instance (x y : Nat) : Decidable (GapOk x y) :=
  decidable_of_iff (fin .f64 x = true ∧ fin .f64 y = true ∧ fin .f64 (gap x y) = true ∧ (FloatKind.f64.format.order (gap x y) 4576918229304087675 == some .gt) = false) ⟨fun ⟨a, b, c, e⟩ => ⟨a, b, c, e⟩, fun ⟨a, b, c, e⟩ => ⟨a, b, c, e⟩⟩
def SLOW : Nat := 953267991
def wrW (m s : Nat) : Nat := fa .mul .f64 4618760256396512830 (widen (rate m s))
def x1W (m d s : Nat) : Nat := fa .mul .f64 (widen (gainW m d s SLOW)) (widen s)
def x2W (m d s : Nat) : Nat := fa .mul .f64 (widen (gainW m d s (rate m s))) (widen d)
def x3W (m d s : Nat) : Nat := fa .mul .f64 (x2W m d s) (wrW m s)
def x4W (m s : Nat) : Nat := fa .mul .f64 (wrW m s) (wrW m s)
def x5W (m s : Nat) : Nat := fa .mul .f64 (x4W m s) (widen m)
def sixC : List (List Int) := [[0, 0], [0, 1], [0, 2], [1, 0], [1, 1], [1, 2]]
structure TowF (m d s : Nat) : Prop where
  fok : towerOk m d s = true
  frate : fin .f32 (rate m s) = true
  fslow : AnsOk m d s SLOW
  fown : AnsOk m d s (rate m s)
  fwr : fin .f64 (wrW m s) = true
  fx1 : GapOk (x1W m d s) ONE
  fx2 : fin .f64 (x2W m d s) = true
  fx3 : GapOk (x3W m d s) ONE
  fim : FloatKind.f32.format.order (ansIm m d s (rate m s)) 0 = some .lt
  fx4 : fin .f64 (x4W m s) = true
  fx5 : GapOk (x5W m s) (widen s)
  fcr : crossTo (rate m s) [1, 3] [0, 1092616192, 0, 1101004800] 2 = sixC
instance (m d s : Nat) : Decidable (TowF m d s) :=
  decidable_of_iff (towerOk m d s = true ∧ fin .f32 (rate m s) = true ∧ AnsOk m d s SLOW ∧ AnsOk m d s (rate m s) ∧ fin .f64 (wrW m s) = true ∧ GapOk (x1W m d s) ONE ∧ fin .f64 (x2W m d s) = true ∧ GapOk (x3W m d s) ONE ∧ FloatKind.f32.format.order (ansIm m d s (rate m s)) 0 = some .lt ∧ fin .f64 (x4W m s) = true ∧ GapOk (x5W m s) (widen s) ∧ crossTo (rate m s) [1, 3] [0, 1092616192, 0, 1101004800] 2 = sixC)
    ⟨fun ⟨a1, a2, a3, a4, a5, a6, a7, a8, a9, a10, a11, a12⟩ => ⟨a1, a2, a3, a4, a5, a6, a7, a8, a9, a10, a11, a12⟩, fun ⟨a1, a2, a3, a4, a5, a6, a7, a8, a9, a10, a11, a12⟩ => ⟨a1, a2, a3, a4, a5, a6, a7, a8, a9, a10, a11, a12⟩⟩
/-- The towers that the law draws. -/
def mW (i : Nat) : Nat := fa .quo .f32 (floatOfInt .f32 (((i + 1 : Nat)) : Int)) 1082130432
def sW (i : Nat) : Nat := fa .quo .f32 (floatOfInt .f32 (((i + 1 : Nat)) : Int)) 1073741824
set_option maxRecDepth 100000 in
theorem tow_0 : ∀ j : Fin 16, ∀ l : Fin 4, TowF (mW 0) (mW l.val) (sW j.val) := by decide +kernel
set_option maxRecDepth 100000 in
theorem tow_1 : ∀ j : Fin 16, ∀ l : Fin 4, TowF (mW 1) (mW l.val) (sW j.val) := by decide +kernel
set_option maxRecDepth 100000 in
theorem tow_2 : ∀ j : Fin 16, ∀ l : Fin 4, TowF (mW 2) (mW l.val) (sW j.val) := by decide +kernel
set_option maxRecDepth 100000 in
theorem tow_3 : ∀ j : Fin 16, ∀ l : Fin 4, TowF (mW 3) (mW l.val) (sW j.val) := by decide +kernel
set_option maxRecDepth 100000 in
theorem tow_4 : ∀ j : Fin 16, ∀ l : Fin 4, TowF (mW 4) (mW l.val) (sW j.val) := by decide +kernel
set_option maxRecDepth 100000 in
theorem tow_5 : ∀ j : Fin 16, ∀ l : Fin 4, TowF (mW 5) (mW l.val) (sW j.val) := by decide +kernel
set_option maxRecDepth 100000 in
theorem tow_6 : ∀ j : Fin 16, ∀ l : Fin 4, TowF (mW 6) (mW l.val) (sW j.val) := by decide +kernel
set_option maxRecDepth 100000 in
theorem tow_7 : ∀ j : Fin 16, ∀ l : Fin 4, TowF (mW 7) (mW l.val) (sW j.val) := by decide +kernel
theorem tow_all {i j l : Nat} (hi : i < 8) (hj : j < 16) (hl : l < 4) : TowF (mW i) (mW l) (sW j) := by
  have hc : i = 0 ∨ i = 1 ∨ i = 2 ∨ i = 3 ∨ i = 4 ∨ i = 5 ∨ i = 6 ∨ i = 7 := by omega
  rcases hc with rfl | rfl | rfl | rfl | rfl | rfl | rfl | rfl
  · exact tow_0 ⟨j, hj⟩ ⟨l, hl⟩
  · exact tow_1 ⟨j, hj⟩ ⟨l, hl⟩
  · exact tow_2 ⟨j, hj⟩ ⟨l, hl⟩
  · exact tow_3 ⟨j, hj⟩ ⟨l, hl⟩
  · exact tow_4 ⟨j, hj⟩ ⟨l, hl⟩
  · exact tow_5 ⟨j, hj⟩ ⟨l, hl⟩
  · exact tow_6 ⟨j, hj⟩ ⟨l, hl⟩
  · exact tow_7 ⟨j, hj⟩ ⟨l, hl⟩
end Go.Proofs.Ytmpmnhnobgidoaa
