/- The frame of a law: a desk that came in. -/
import Derived.Test.YtglfjanclopipaaDE
import Derived.Test.YtglfjanclopipaaP
namespace Go.Proofs.Ytglfjanclopipaa
set_option linter.unusedSimpArgs false
set_option linter.unusedVariables false
open Go.ChangeShapes Go.WideShapes Go.ChangeAt Go.RowKit Go.Joins Go.Deep Go.Fl

set_option maxRecDepth 100000 in
theorem trodD_air {H : Type} {enc : TypeId × Value → H} {w : World} {base : Nat} {spare : Nat → Bool} {held : Bool} {fuel : Nat} {cs : List Value} {x : DataW H × List MemPlace}
    (h : DataW.trod enc Try.prog w base spare held fuel 30 cs = some x) : ∃ (A0 : Nat) (A1 : Nat) (A2 : Nat) (A3 : Nat), cs = [.float .f32 A0, .float .f32 A1, .float .f32 A2, .float .f32 A3] ∧ A0 < 4294967296 ∧ A1 < 4294967296 ∧ A2 < 4294967296 ∧ A3 < 4294967296 := by
  obtain ⟨xs, n, _, -, hl, hlen, hfs⟩ := DataW.trod_struct Try.underlying30 h
  replace hl : cs.length = 4 := hl.trans (by kernel_rfl)
  have k0 : Try.prog.cellsOf 26 = 1 := by kernel_rfl
  match cs, hl, xs, hlen with
  | [a0, a1, a2, a3], _, [y0, y1, y2, y3], _ =>
    have g0 : DataW.trod enc Try.prog w base spare held n 26 [a0] = some y0 := by have h := hfs 0 _ rfl; simpa [Value.cells, k0] using h
    have g1 : DataW.trod enc Try.prog w base spare held n 26 [a1] = some y1 := by have h := hfs 1 _ rfl; simpa [Value.cells, k0] using h
    have g2 : DataW.trod enc Try.prog w base spare held n 26 [a2] = some y2 := by have h := hfs 2 _ rfl; simpa [Value.cells, k0] using h
    have g3 : DataW.trod enc Try.prog w base spare held n 26 [a3] = some y3 := by have h := hfs 3 _ rfl; simpa [Value.cells, k0] using h
    clear hfs h
    obtain ⟨A0, e0, r0⟩ := trod_float_ltK Try.underlying26 g0
    obtain ⟨A1, e1, r1⟩ := trod_float_ltK Try.underlying26 g1
    obtain ⟨A2, e2, r2⟩ := trod_float_ltK Try.underlying26 g2
    obtain ⟨A3, e3, r3⟩ := trod_float_ltK Try.underlying26 g3
    simp only [List.cons.injEq, and_true] at e0 e1 e2 e3
    simp only [e0, e1, e2, e3]
    exact ⟨A0, A1, A2, A3, rfl, by simp only [r0, r1, r2, r3, and_self]⟩
set_option maxRecDepth 100000 in
theorem trodD_plant {H : Type} {enc : TypeId × Value → H} {w : World} {base : Nat} {spare : Nat → Bool} {held : Bool} {fuel : Nat} {cs : List Value} {x : DataW H × List MemPlace}
    (h : DataW.trod enc Try.prog w base spare held fuel 32 cs = some x) : ∃ (P0 : Nat) (P1 : Nat) (P2 : Nat) (P3 : Nat) (P4 : Nat) (P5 : Nat) (P6 : Nat) (P7 : Nat), cs = [.float .f32 P0, .float .f32 P1, .float .f32 P2, .float .f32 P3, .float .f32 P4, .float .f32 P5, .float .f32 P6, .float .f32 P7] ∧ P0 < 4294967296 ∧ P1 < 4294967296 ∧ P2 < 4294967296 ∧ P3 < 4294967296 ∧ P4 < 4294967296 ∧ P5 < 4294967296 ∧ P6 < 4294967296 ∧ P7 < 4294967296 := by
  obtain ⟨xs, n, _, -, hl, hlen, hfs⟩ := DataW.trod_struct Try.underlying32 h
  replace hl : cs.length = 8 := hl.trans (by kernel_rfl)
  have k0 : Try.prog.cellsOf 26 = 1 := by kernel_rfl
  match cs, hl, xs, hlen with
  | [a0, a1, a2, a3, a4, a5, a6, a7], _, [y0, y1, y2, y3, y4, y5, y6, y7], _ =>
    have g0 : DataW.trod enc Try.prog w base spare held n 26 [a0] = some y0 := by have h := hfs 0 _ rfl; simpa [Value.cells, k0] using h
    have g1 : DataW.trod enc Try.prog w base spare held n 26 [a1] = some y1 := by have h := hfs 1 _ rfl; simpa [Value.cells, k0] using h
    have g2 : DataW.trod enc Try.prog w base spare held n 26 [a2] = some y2 := by have h := hfs 2 _ rfl; simpa [Value.cells, k0] using h
    have g3 : DataW.trod enc Try.prog w base spare held n 26 [a3] = some y3 := by have h := hfs 3 _ rfl; simpa [Value.cells, k0] using h
    have g4 : DataW.trod enc Try.prog w base spare held n 26 [a4] = some y4 := by have h := hfs 4 _ rfl; simpa [Value.cells, k0] using h
    have g5 : DataW.trod enc Try.prog w base spare held n 26 [a5] = some y5 := by have h := hfs 5 _ rfl; simpa [Value.cells, k0] using h
    have g6 : DataW.trod enc Try.prog w base spare held n 26 [a6] = some y6 := by have h := hfs 6 _ rfl; simpa [Value.cells, k0] using h
    have g7 : DataW.trod enc Try.prog w base spare held n 26 [a7] = some y7 := by have h := hfs 7 _ rfl; simpa [Value.cells, k0] using h
    clear hfs h
    obtain ⟨P0, e0, r0⟩ := trod_float_ltK Try.underlying26 g0
    obtain ⟨P1, e1, r1⟩ := trod_float_ltK Try.underlying26 g1
    obtain ⟨P2, e2, r2⟩ := trod_float_ltK Try.underlying26 g2
    obtain ⟨P3, e3, r3⟩ := trod_float_ltK Try.underlying26 g3
    obtain ⟨P4, e4, r4⟩ := trod_float_ltK Try.underlying26 g4
    obtain ⟨P5, e5, r5⟩ := trod_float_ltK Try.underlying26 g5
    obtain ⟨P6, e6, r6⟩ := trod_float_ltK Try.underlying26 g6
    obtain ⟨P7, e7, r7⟩ := trod_float_ltK Try.underlying26 g7
    simp only [List.cons.injEq, and_true] at e0 e1 e2 e3 e4 e5 e6 e7
    simp only [e0, e1, e2, e3, e4, e5, e6, e7]
    exact ⟨P0, P1, P2, P3, P4, P5, P6, P7, rfl, by simp only [r0, r1, r2, r3, r4, r5, r6, r7, and_self]⟩
set_option maxRecDepth 100000 in
theorem trodD_drive {H : Type} {enc : TypeId × Value → H} {w : World} {base : Nat} {spare : Nat → Bool} {held : Bool} {fuel : Nat} {cs : List Value} {x : DataW H × List MemPlace}
    (h : DataW.trod enc Try.prog w base spare held fuel 34 cs = some x) : ∃ (P0 P1 P2 P3 P4 P5 P6 P7 : Nat) (st : Int) (sp : Nat) (pi : Nat) (en : Nat), cs = [.float .f32 P0, .float .f32 P1, .float .f32 P2, .float .f32 P3, .float .f32 P4, .float .f32 P5, .float .f32 P6, .float .f32 P7, .int .i64 st, .float .f32 sp, .float .f32 pi, .float .f32 en] ∧ (P0 < 4294967296 ∧ P1 < 4294967296 ∧ P2 < 4294967296 ∧ P3 < 4294967296 ∧ P4 < 4294967296 ∧ P5 < 4294967296 ∧ P6 < 4294967296 ∧ P7 < 4294967296) ∧ sp < 4294967296 ∧ pi < 4294967296 ∧ en < 4294967296 := by
  obtain ⟨xs, n, _, -, hl, hlen, hfs⟩ := DataW.trod_struct Try.underlying34 h
  replace hl : cs.length = 12 := hl.trans (by kernel_rfl)
  have k0 : Try.prog.cellsOf 26 = 1 := by kernel_rfl
  have k1 : Try.prog.cellsOf 2 = 1 := by kernel_rfl
  have k2 : Try.prog.cellsOf 32 = 8 := by kernel_rfl
  match cs, hl, xs, hlen with
  | [a0, a1, a2, a3, a4, a5, a6, a7, a8, a9, a10, a11], _, [y0, y1, y2, y3, y4], _ =>
    have g0 : DataW.trod enc Try.prog w base spare held n 32 [a0, a1, a2, a3, a4, a5, a6, a7] = some y0 := by have h := hfs 0 _ rfl; simpa [Value.cells, k2] using h
    have g1 : DataW.trod enc Try.prog w base spare held n 2 [a8] = some y1 := by have h := hfs 1 _ rfl; simpa [Value.cells, k1] using h
    have g2 : DataW.trod enc Try.prog w base spare held n 26 [a9] = some y2 := by have h := hfs 2 _ rfl; simpa [Value.cells, k0] using h
    have g3 : DataW.trod enc Try.prog w base spare held n 26 [a10] = some y3 := by have h := hfs 3 _ rfl; simpa [Value.cells, k0] using h
    have g4 : DataW.trod enc Try.prog w base spare held n 26 [a11] = some y4 := by have h := hfs 4 _ rfl; simpa [Value.cells, k0] using h
    clear hfs h
    obtain ⟨P0, P1, P2, P3, P4, P5, P6, P7, e0, r0⟩ := trodD_plant g0
    obtain ⟨st, e1, -, -⟩ := DataW.trod_int Try.underlying2 g1
    obtain ⟨sp, e2, r2⟩ := trod_float_ltK Try.underlying26 g2
    obtain ⟨pi, e3, r3⟩ := trod_float_ltK Try.underlying26 g3
    obtain ⟨en, e4, r4⟩ := trod_float_ltK Try.underlying26 g4
    simp only [List.cons.injEq, and_true] at e0 e1 e2 e3 e4
    simp only [e0, e1, e2, e3, e4]
    exact ⟨P0, P1, P2, P3, P4, P5, P6, P7, st, sp, pi, en, rfl, by simp only [r0, r2, r3, r4, and_self]⟩
set_option maxRecDepth 100000 in
theorem trodD_farm {H : Type} {enc : TypeId × Value → H} {w : World} {base : Nat} {spare : Nat → Bool} {held : Bool} {fuel : Nat} {cs : List Value} {x : DataW H × List MemPlace}
    (h : DataW.trod enc Try.prog w base spare held fuel 36 cs = some x) : ∃ (vx : Value) (x : List Nat) (vy : Value) (y : List Nat) (fr : Nat) (fd : Nat) (fs : Nat), cs = [vx, vy, .float .f32 fr, .float .f32 fd, .float .f32 fs] ∧ RFb w vx x ∧ RFb w vy y ∧ fr < 4294967296 ∧ fd < 4294967296 ∧ fs < 4294967296 := by
  obtain ⟨xs, n, _, -, hl, hlen, hfs⟩ := DataW.trod_struct Try.underlying36 h
  replace hl : cs.length = 5 := hl.trans (by kernel_rfl)
  have k0 : Try.prog.cellsOf 22 = 1 := by kernel_rfl
  have k1 : Try.prog.cellsOf 26 = 1 := by kernel_rfl
  match cs, hl, xs, hlen with
  | [a0, a1, a2, a3, a4], _, [y0, y1, y2, y3, y4], _ =>
    have g0 : DataW.trod enc Try.prog w base spare held n 22 [a0] = some y0 := by have h := hfs 0 _ rfl; simpa [Value.cells, k0] using h
    have g1 : DataW.trod enc Try.prog w base spare held n 22 [a1] = some y1 := by have h := hfs 1 _ rfl; simpa [Value.cells, k0] using h
    have g2 : DataW.trod enc Try.prog w base spare held n 26 [a2] = some y2 := by have h := hfs 2 _ rfl; simpa [Value.cells, k1] using h
    have g3 : DataW.trod enc Try.prog w base spare held n 26 [a3] = some y3 := by have h := hfs 3 _ rfl; simpa [Value.cells, k1] using h
    have g4 : DataW.trod enc Try.prog w base spare held n 26 [a4] = some y4 := by have h := hfs 4 _ rfl; simpa [Value.cells, k1] using h
    clear hfs h
    obtain ⟨vx, x, e0, r0⟩ := trod_RFb g0
    obtain ⟨vy, y, e1, r1⟩ := trod_RFb g1
    obtain ⟨fr, e2, r2⟩ := trod_float_ltK Try.underlying26 g2
    obtain ⟨fd, e3, r3⟩ := trod_float_ltK Try.underlying26 g3
    obtain ⟨fs, e4, r4⟩ := trod_float_ltK Try.underlying26 g4
    simp only [List.cons.injEq, and_true] at e0 e1 e2 e3 e4
    simp only [e0, e1, e2, e3, e4]
    exact ⟨vx, x, vy, y, fr, fd, fs, rfl, by simp only [r0, r1, r2, r3, r4, and_self]⟩
set_option maxRecDepth 100000 in
theorem trodD_rotor {H : Type} {enc : TypeId × Value → H} {w : World} {base : Nat} {spare : Nat → Bool} {held : Bool} {fuel : Nat} {cs : List Value} {x : DataW H × List MemPlace}
    (h : DataW.trod enc Try.prog w base spare held fuel 28 cs = some x) : ∃ (va vl vd : Value) (a l d : List Nat) (vs : Value) (s : List Sta) (c : Int) (hub : Nat) (tip : Nat), cs = [va, vl, vd, vs, .int .i64 c, .float .f32 hub, .float .f32 tip] ∧ (RFb w va a ∧ RFb w vl l ∧ RFb w vd d) ∧ RTb w vs s ∧ hub < 4294967296 ∧ tip < 4294967296 := by
  obtain ⟨xs, n, _, -, hl, hlen, hfs⟩ := DataW.trod_struct Try.underlying28 h
  replace hl : cs.length = 7 := hl.trans (by kernel_rfl)
  have k0 : Try.prog.cellsOf 25 = 1 := by kernel_rfl
  have k1 : Try.prog.cellsOf 26 = 1 := by kernel_rfl
  have k2 : Try.prog.cellsOf 2 = 1 := by kernel_rfl
  have k3 : Try.prog.cellsOf 24 = 3 := by kernel_rfl
  match cs, hl, xs, hlen with
  | [a0, a1, a2, a3, a4, a5, a6], _, [y0, y1, y2, y3, y4], _ =>
    have g0 : DataW.trod enc Try.prog w base spare held n 24 [a0, a1, a2] = some y0 := by have h := hfs 0 _ rfl; simpa [Value.cells, k3] using h
    have g1 : DataW.trod enc Try.prog w base spare held n 25 [a3] = some y1 := by have h := hfs 1 _ rfl; simpa [Value.cells, k0] using h
    have g2 : DataW.trod enc Try.prog w base spare held n 2 [a4] = some y2 := by have h := hfs 2 _ rfl; simpa [Value.cells, k2] using h
    have g3 : DataW.trod enc Try.prog w base spare held n 26 [a5] = some y3 := by have h := hfs 3 _ rfl; simpa [Value.cells, k1] using h
    have g4 : DataW.trod enc Try.prog w base spare held n 26 [a6] = some y4 := by have h := hfs 4 _ rfl; simpa [Value.cells, k1] using h
    clear hfs h
    obtain ⟨va, vl, vd, a, l, d, e0, r0⟩ := trod_prof g0
    obtain ⟨vs, s, e1, r1⟩ := trod_RTb g1
    obtain ⟨c, e2, -, -⟩ := DataW.trod_int Try.underlying2 g2
    obtain ⟨hub, e3, r3⟩ := trod_float_ltK Try.underlying26 g3
    obtain ⟨tip, e4, r4⟩ := trod_float_ltK Try.underlying26 g4
    simp only [List.cons.injEq, and_true] at e0 e1 e2 e3 e4
    simp only [e0, e1, e2, e3, e4]
    exact ⟨va, vl, vd, a, l, d, vs, s, c, hub, tip, rfl, by simp only [r0, r1, r3, r4, and_self]⟩
set_option maxRecDepth 100000 in
theorem trodD_desk {H : Type} {enc : TypeId × Value → H} {w : World} {base : Nat} {spare : Nat → Bool} {held : Bool} {fuel : Nat} {cs : List Value} {x : DataW H × List MemPlace}
    (h : DataW.trod enc Try.prog w base spare held fuel 38 cs = some x) : ∃ (va vl vd : Value) (a l d : List Nat) (vs : Value) (s : List Sta) (c : Int) (hub tip : Nat) (A0 A1 A2 A3 : Nat) (P0 P1 P2 P3 P4 P5 P6 P7 : Nat) (st : Int) (sp pi en : Nat) (vx : Value) (x : List Nat) (vy : Value) (y : List Nat) (fr fd fs : Nat), cs = [va, vl, vd, vs, .int .i64 c, .float .f32 hub, .float .f32 tip, .float .f32 A0, .float .f32 A1, .float .f32 A2, .float .f32 A3, .float .f32 P0, .float .f32 P1, .float .f32 P2, .float .f32 P3, .float .f32 P4, .float .f32 P5, .float .f32 P6, .float .f32 P7, .int .i64 st, .float .f32 sp, .float .f32 pi, .float .f32 en, vx, vy, .float .f32 fr, .float .f32 fd, .float .f32 fs] ∧ (((RFb w va a ∧ RFb w vl l ∧ RFb w vd d) ∧ RTb w vs s ∧ hub < 4294967296 ∧ tip < 4294967296)) ∧ (A0 < 4294967296 ∧ A1 < 4294967296 ∧ A2 < 4294967296 ∧ A3 < 4294967296) ∧ ((P0 < 4294967296 ∧ P1 < 4294967296 ∧ P2 < 4294967296 ∧ P3 < 4294967296 ∧ P4 < 4294967296 ∧ P5 < 4294967296 ∧ P6 < 4294967296 ∧ P7 < 4294967296) ∧ sp < 4294967296 ∧ pi < 4294967296 ∧ en < 4294967296) ∧ (RFb w vx x ∧ RFb w vy y ∧ fr < 4294967296 ∧ fd < 4294967296 ∧ fs < 4294967296) := by
  obtain ⟨xs, n, _, -, hl, hlen, hfs⟩ := DataW.trod_struct Try.underlying38 h
  replace hl : cs.length = 28 := hl.trans (by kernel_rfl)
  have k0 : Try.prog.cellsOf 30 = 4 := by kernel_rfl
  have k1 : Try.prog.cellsOf 34 = 12 := by kernel_rfl
  have k2 : Try.prog.cellsOf 36 = 5 := by kernel_rfl
  have k3 : Try.prog.cellsOf 28 = 7 := by kernel_rfl
  match cs, hl, xs, hlen with
  | [a0, a1, a2, a3, a4, a5, a6, a7, a8, a9, a10, a11, a12, a13, a14, a15, a16, a17, a18, a19, a20, a21, a22, a23, a24, a25, a26, a27], _, [y0, y1, y2, y3], _ =>
    have g0 : DataW.trod enc Try.prog w base spare held n 28 [a0, a1, a2, a3, a4, a5, a6] = some y0 := by have h := hfs 0 _ rfl; simpa [Value.cells, k3] using h
    have g1 : DataW.trod enc Try.prog w base spare held n 30 [a7, a8, a9, a10] = some y1 := by have h := hfs 1 _ rfl; simpa [Value.cells, k0] using h
    have g2 : DataW.trod enc Try.prog w base spare held n 34 [a11, a12, a13, a14, a15, a16, a17, a18, a19, a20, a21, a22] = some y2 := by have h := hfs 2 _ rfl; simpa [Value.cells, k1] using h
    have g3 : DataW.trod enc Try.prog w base spare held n 36 [a23, a24, a25, a26, a27] = some y3 := by have h := hfs 3 _ rfl; simpa [Value.cells, k2] using h
    clear hfs h
    obtain ⟨va, vl, vd, a, l, d, vs, s, c, hub, tip, e0, r0⟩ := trodD_rotor g0
    obtain ⟨A0, A1, A2, A3, e1, r1⟩ := trodD_air g1
    obtain ⟨P0, P1, P2, P3, P4, P5, P6, P7, st, sp, pi, en, e2, r2⟩ := trodD_drive g2
    obtain ⟨vx, x, vy, y, fr, fd, fs, e3, r3⟩ := trodD_farm g3
    simp only [List.cons.injEq, and_true] at e0 e1 e2 e3
    simp only [e0, e1, e2, e3]
    exact ⟨va, vl, vd, a, l, d, vs, s, c, hub, tip, A0, A1, A2, A3, P0, P1, P2, P3, P4, P5, P6, P7, st, sp, pi, en, vx, x, vy, y, fr, fd, fs, rfl, by simp only [r0, r1, r2, r3, and_self]⟩
set_option maxRecDepth 100000 in
theorem open_desk {H : Type} {enc : TypeId × Value → H} {w : World} {r : Reach} {b0 base : Nat} {spare : Nat → Bool} {held : Bool} {v : Value} {d : DataW H} {p : List MemPlace}
    (hv : Value.okWide Try.prog w r b0 38 v) (h : DataW.Trod enc Try.prog w base spare held 38 v d p) : ∃ (D : Dsk) (cs : List Value), v = .agg cs.toArray ∧ DVb w D cs ∧ D.BD := by
  obtain ⟨⟨cs⟩, rfl, hsz⟩ := okWide_struct Try.underlying38 hv
  obtain ⟨fuel, hf⟩ := h
  obtain ⟨va, vl, vd, a, l, d, vs, s, c, hub, tip, A0, A1, A2, A3, P0, P1, P2, P3, P4, P5, P6, P7, st, sp, pi, en, vx, x, vy, y, fr, fd, fs, e, ⟨⟨r1, r2, r3⟩, r4, l0, l1⟩, ⟨l2, l3, l4, l5⟩, ⟨⟨l6, l7, l8, l9, l10, l11, l12, l13⟩, l14, l15, l16⟩, r5, r6, l17, l18, l19⟩ := trodD_desk (show DataW.trod enc Try.prog w base spare held fuel 38 cs = some (d, p) by simpa [Value.cells] using hf)
  exact ⟨⟨a, l, d, s, c, hub, tip, A0, A1, A2, A3, P0, P1, P2, P3, P4, P5, P6, P7, st, sp, pi, en, x, y, fr, fd, fs⟩, cs, rfl, ⟨va, vl, vd, vs, vx, vy, e, r1, r2, r3, r4, r5, r6⟩,
    ⟨r1.2.2, r2.2.2, r3.2.2⟩, r4.2.2, by simp [Bd, *], by simp [Bd, *], by simp [Bd, *], by simp [Bd, *], ⟨r5.2.2, r6.2.2⟩, by simp [Bd, *]⟩
end Go.Proofs.Ytglfjanclopipaa
