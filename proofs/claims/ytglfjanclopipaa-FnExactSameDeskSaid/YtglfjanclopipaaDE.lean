/- Walks: a desk as one list of cells: contracts. -/
import Derived.Test.YtglfjanclopipaaDD
namespace Go.Proofs.Ytglfjanclopipaa
set_option linter.unusedSimpArgs false
set_option linter.unusedVariables false
open Go.RowKit Go.Fl Go.Lib

/-- What a desk holds. -/
structure Dsk where
  a : List Nat
  l : List Nat
  d : List Nat
  cs : List Sta
  c : Int
  hub : Nat
  tip : Nat
  A0 : Nat
  A1 : Nat
  A2 : Nat
  A3 : Nat
  P0 : Nat
  P1 : Nat
  P2 : Nat
  P3 : Nat
  P4 : Nat
  P5 : Nat
  P6 : Nat
  P7 : Nat
  st : Int
  sp : Nat
  pi : Nat
  en : Nat
  x : List Nat
  y : List Nat
  fr : Nat
  fd : Nat
  fs : Nat
def Dsk.row (D : Dsk) (va vl vd vs vx vy : Value) : List Value := [va, vl, vd, vs, .int .i64 D.c, .float .f32 D.hub, .float .f32 D.tip, .float .f32 D.A0, .float .f32 D.A1, .float .f32 D.A2, .float .f32 D.A3, .float .f32 D.P0, .float .f32 D.P1, .float .f32 D.P2, .float .f32 D.P3, .float .f32 D.P4, .float .f32 D.P5, .float .f32 D.P6, .float .f32 D.P7, .int .i64 D.st, .float .f32 D.sp, .float .f32 D.pi, .float .f32 D.en, vx, vy, .float .f32 D.fr, .float .f32 D.fd, .float .f32 D.fs]
/-- The cells of a desk. -/
def DV (w : World) (D : Dsk) (cs : List Value) : Prop := ∃ va vl vd vs vx vy, cs = D.row va vl vd vs vx vy ∧ RF w va D.a ∧ RF w vl D.l ∧ RF w vd D.d ∧ RT w vs D.cs ∧ RF w vx D.x ∧ RF w vy D.y
/-- .. that came in. -/
def DVb (w : World) (D : Dsk) (cs : List Value) : Prop := ∃ va vl vd vs vx vy, cs = D.row va vl vd vs vx vy ∧ RFb w va D.a ∧ RFb w vl D.l ∧ RFb w vd D.d ∧ RTb w vs D.cs ∧ RFb w vx D.x ∧ RFb w vy D.y
/-- Numbers of 32 bits. -/
def Dsk.BD (D : Dsk) : Prop := (Bd D.a ∧ Bd D.l ∧ Bd D.d) ∧ Bd (staF D.cs) ∧ Bd [D.hub, D.tip] ∧ Bd [D.A0, D.A1, D.A2, D.A3] ∧ Bd [D.P0, D.P1, D.P2, D.P3, D.P4, D.P5, D.P6, D.P7] ∧ Bd [D.sp, D.pi, D.en] ∧ (Bd D.x ∧ Bd D.y) ∧ Bd [D.fr, D.fd, D.fs]
def Dsk.ok (D : Dsk) : Bool := deskOk D.a D.l D.d D.cs D.c D.hub D.tip D.A0 D.A1 D.A2 D.A3 D.P0 D.P1 D.P2 D.P3 D.P4 D.P5 D.P6 D.P7 D.st D.sp D.pi D.en D.x D.y D.fr D.fd D.fs
def Dsk.sz (D : Dsk) : Nat := D.a.length + D.l.length + D.d.length + D.cs.length + (D.x.length + D.y.length)
theorem DV.below {w w' : World} {D : Dsk} {cs : List Value} (h : DV w D cs) (hb : Below w.heap.size w w') : DV w' D cs := by
  obtain ⟨va, vl, vd, vs, vx, vy, e, h1, h2, h3, h4, h5, h6⟩ := h
  exact ⟨va, vl, vd, vs, vx, vy, e, RF_below h1 hb, RF_below h2 hb, RF_below h3 hb, RT_below h4 hb, RF_below h5 hb, RF_below h6 hb⟩
theorem DV.length {w : World} {D : Dsk} {cs : List Value} (h : DV w D cs) : cs.length = 28 := by
  obtain ⟨va, vl, vd, vs, vx, vy, rfl, -⟩ := h
  rfl
theorem DVb.length {w : World} {D : Dsk} {cs : List Value} (h : DVb w D cs) : cs.length = 28 := by
  obtain ⟨va, vl, vd, vs, vx, vy, rfl, -⟩ := h
  rfl
theorem DVb.dv {w : World} {D : Dsk} {cs : List Value} (h : DVb w D cs) (hs : D.sz ≤ 1048576) : DV w D cs := by
  obtain ⟨va, vl, vd, vs, vx, vy, e, h1, h2, h3, h4, h5, h6⟩ := h
  unfold Dsk.sz at hs
  exact ⟨va, vl, vd, vs, vx, vy, e, h1.2.1 (by omega), h2.2.1 (by omega), h3.2.1 (by omega), h4.2.1 (by omega), h5.2.1 (by omega), h6.2.1 (by omega)⟩
theorem DV.all {w : World} {D : Dsk} {cs : List Value} (h : DV w D cs) : cs.toArray.all (·.oneCell') = true := by
  obtain ⟨va, vl, vd, vs, vx, vy, rfl, ⟨_, _, rfl, -⟩, ⟨_, _, rfl, -⟩, ⟨_, _, rfl, -⟩, ⟨_, _, rfl, -⟩, ⟨_, _, rfl, -⟩, ⟨_, _, rfl, -⟩⟩ := h
  refine all_oneCell_toArray (fun v hv => ?_)
  simp only [Dsk.row, List.mem_cons, List.not_mem_nil, or_false] at hv
  rcases hv with rfl | rfl | rfl | rfl | rfl | rfl | rfl | rfl | rfl | rfl | rfl | rfl | rfl | rfl | rfl | rfl | rfl | rfl | rfl | rfl | rfl | rfl | rfl | rfl | rfl | rfl | rfl | rfl <;> rfl

theorem D_sz (D : Dsk) (cs : List Value) (w W : World) (left : Int) (h0 : 0 ≤ left) (h1 : left ≤ 1048576) (h : DVb w D cs) :
    Calls Try.prog 6 #[.agg cs.toArray, .int .i64 left] W fun e w' => (∃ r : Int, e = .returned (.int .i64 r) ∧ r ≤ left ∧ (0 ≤ r → r = left - D.sz)) ∧ Below W.heap.size W w' := by
  obtain ⟨va, vl, vd, vs, vx, vy, rfl, k1, k2, k3, k4, k5, k6⟩ := h
  refine (l_szDesk va vl vd vs _ _ _ _ D.c D.hub D.tip D.A0 D.A1 D.A2 D.A3 D.P0 D.P1 D.P2 D.P3 D.P4 D.P5 D.P6 D.P7 D.st D.sp D.pi D.en vx vy _ _ D.fr D.fd D.fs W left h0 h1 k1.1 k2.1 k3.1 k4.1 k5.1 k6.1).mono ?_
  rintro e w' ⟨⟨r, rfl, hr, hh⟩, hb⟩
  exact ⟨⟨r, rfl, hr, fun h => (hh h).trans (by unfold Dsk.sz; omega)⟩, hb⟩
theorem D_to (D : Dsk) (cs : List Value) (w : World) (hs : D.sz ≤ 1048576) (h : DV w D cs) :
    Calls Try.prog 8 #[.agg cs.toArray] w fun e w' => ∃ us, e = .returned (.agg us.toArray) ∧ DV w' D us ∧ Below w.heap.size w w' := by
  obtain ⟨va, vl, vd, vs, vx, vy, rfl, k1, k2, k3, k4, k5, k6⟩ := h
  unfold Dsk.sz at hs
  refine (l_toDesk va vl vd vs D.a D.l D.d D.cs D.c D.hub D.tip D.A0 D.A1 D.A2 D.A3 D.P0 D.P1 D.P2 D.P3 D.P4 D.P5 D.P6 D.P7 D.st D.sp D.pi D.en vx vy D.x D.y D.fr D.fd D.fs w k1 k2 k3 k4 k5 k6 (by omega) (by omega) (by omega) (by omega) (by omega) (by omega)).mono ?_
  rintro e w' ⟨ua, ul, ud, us, ux, uy, rfl, r1, r2, r3, r4, r5, r6, hb⟩
  exact ⟨D.row ua ul ud us ux uy, rfl, ⟨ua, ul, ud, us, ux, uy, rfl, r1, r2, r3, r4, r5, r6⟩, hb⟩
theorem D_eq (D : Dsk) (cs es : List Value) (w : World) (h : DV w D cs) (k : DV w D es) :
    Calls Try.prog 10 #[.agg cs.toArray, .agg es.toArray] w fun e w' => e = .returned (.bool true) ∧ Below w.heap.size w w' := by
  obtain ⟨va, vl, vd, vs, vx, vy, rfl, k1, k2, k3, k4, k5, k6⟩ := h
  obtain ⟨ua, ul, ud, us, ux, uy, rfl, r1, r2, r3, r4, r5, r6⟩ := k
  exact l_eqDesk va vl vd vs ua ul ud us D.a D.l D.d D.cs D.c D.hub D.tip D.A0 D.A1 D.A2 D.A3 D.P0 D.P1 D.P2 D.P3 D.P4 D.P5 D.P6 D.P7 D.st D.sp D.pi D.en vx vy ux uy D.x D.y D.fr D.fd D.fs w k1 k2 k3 k4 k5 k6 r1 r2 r3 r4 r5 r6
theorem D_sValid (D : Dsk) (cs : List Value) (w : World) (h : DV w D cs) : Calls Try.prog 11 #[.agg cs.toArray] w fun e w' => e = .returned (.bool D.ok) ∧ Below w.heap.size w w' := by
  obtain ⟨va, vl, vd, vs, vx, vy, rfl, k1, k2, k3, k4, k5, k6⟩ := h
  exact s_ValidDesk va vl vd vs D.a D.l D.d D.cs D.c D.hub D.tip D.A0 D.A1 D.A2 D.A3 D.P0 D.P1 D.P2 D.P3 D.P4 D.P5 D.P6 D.P7 D.st D.sp D.pi D.en vx vy D.x D.y D.fr D.fd D.fs w k1 k2 k3 k4 k5 k6
theorem D_iValid (D : Dsk) (cs : List Value) (w : World) (h : DV w D cs) : Calls Try.prog 12 #[.agg cs.toArray] w fun e w' => e = .returned (.bool D.ok) ∧ Below w.heap.size w w' := by
  obtain ⟨va, vl, vd, vs, vx, vy, rfl, k1, k2, k3, k4, k5, k6⟩ := h
  exact i_ValidDesk va vl vd vs D.a D.l D.d D.cs D.c D.hub D.tip D.A0 D.A1 D.A2 D.A3 D.P0 D.P1 D.P2 D.P3 D.P4 D.P5 D.P6 D.P7 D.st D.sp D.pi D.en vx vy D.x D.y D.fr D.fd D.fs w k1 k2 k3 k4 k5 k6
theorem info_implDesk {cs : List Value} (h : cs.length = 28) : (Try.prog.info? 51).map (·.size) = some cs.length := by rw [h]; kernel_rfl
theorem info_lawsDesk {cs : List Value} (h : cs.length = 28) : (Try.prog.info? 38).map (·.size) = some cs.length := by rw [h]; kernel_rfl
theorem row_topL (w : World) (k : Nat) (hk : k = w.heap.size) (cs : List Value) (t : TypeId) : Row (w.alloc (.cells cs.toArray t)) k cs := by
  have := row_top w k hk cs.toArray t
  simpa using this
/-- What a new desk's cells are. -/
abbrev deskZ : Array Value := #[.slice none 0 0, .slice none 0 0, .slice none 0 0, .slice none 0 0, .int .i64 0, .float .f32 0, .float .f32 0, .float .f32 0, .float .f32 0, .float .f32 0, .float .f32 0, .float .f32 0, .float .f32 0, .float .f32 0, .float .f32 0, .float .f32 0, .float .f32 0, .float .f32 0, .float .f32 0, .int .i64 0, .float .f32 0, .float .f32 0, .float .f32 0, .slice none 0 0, .slice none 0 0, .float .f32 0, .float .f32 0, .float .f32 0]
end Go.Proofs.Ytglfjanclopipaa
