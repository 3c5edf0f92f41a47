/- The frame of a law: stations and rotors that came in. -/
import Derived.Test.YtglfjanclopipaaKP
import Derived.Test.YtglfjanclopipaaKO
namespace Go.Proofs.Ytglfjanclopipaa
set_option linter.unusedSimpArgs false
set_option linter.unusedVariables false
open Go.ChangeShapes Go.WideShapes Go.ChangeAt Go.RowKit Go.Joins Go.Deep Go.Fl

/-- Stations as they came in. -/
def RTb (w : World) (v : Value) (cs : List Sta) : Prop := RFn v cs.length ∧ (cs.length ≤ 1048576 → RT w v cs) ∧ Bd (staF cs)
set_option maxRecDepth 100000 in
theorem trod_sta {H : Type} {enc : TypeId × Value → H} {w : World} {base : Nat} {spare : Nat → Bool} {held : Bool} {fuel : Nat} {cs : List Value} {x : DataW H × List MemPlace}
    (h : DataW.trod enc Try.prog w base spare held fuel 145 cs = some x) : ∃ a b c : Nat, cs = [.float .f32 a, .float .f32 b, .float .f32 c] ∧ a < 4294967296 ∧ b < 4294967296 ∧ c < 4294967296 := by
  obtain ⟨y0, y1, y2, n, -, hl, h0, h1, h2⟩ := trod_struct3 Try.underlying145 h
  have hl' : cs.length = 3 := hl.trans (by kernel_rfl)
  have k1 : Try.prog.cellsOf 26 = 1 := by kernel_rfl
  simp only [k1] at h0 h1 h2
  match cs, hl' with
  | [a, b, c], _ =>
    obtain ⟨x0, e0, l0⟩ := trod_float_ltK Try.underlying26 h0
    obtain ⟨x1, e1, l1⟩ := trod_float_ltK Try.underlying26 h1
    obtain ⟨x2, e2, l2⟩ := trod_float_ltK Try.underlying26 h2
    simp at e0 e1 e2
    exact ⟨x0, x1, x2, by rw [e0, e1, e2], l0, l1, l2⟩
set_option maxRecDepth 100000 in
theorem trod_RTb {H : Type} {enc : TypeId × Value → H} {w : World} {base : Nat} {spare : Nat → Bool} {held : Bool} {fuel : Nat} {vs : List Value} {x : DataW H × List MemPlace}
    (h : DataW.trod enc Try.prog w base spare held fuel 25 vs = some x) : ∃ v cs, vs = [v] ∧ RTb w v cs := by
  rcases open_slice Try.underlying25 h with ⟨hcs, -⟩ | ⟨a', len, cap, m, n, D, Pl, hcs, -, hl, hm, hmm, -, hx⟩
  · exact ⟨_, [], hcs, ⟨⟨_, _, rfl, by simp⟩, fun _ => ⟨_, _, rfl, by simp, .inl rfl⟩, fun x hx => by simp [staF] at hx⟩⟩
  · have hlm : len ≤ m := by rw [hmm]; split <;> omega
    have k3 : Try.prog.cellsOf 145 = 3 := by kernel_rfl
    rw [k3] at hx
    have hV : ∀ i, ∃ c : Sta, (i < len → w.cell? (a'.add (i * 3)) = some (.float .f32 c.ra) ∧ w.cell? ((a'.add (i * 3)).add 1) = some (.float .f32 c.ch) ∧ w.cell? ((a'.add (i * 3)).add 2) = some (.float .f32 c.tw)) ∧ c.ra < 4294967296 ∧ c.ch < 4294967296 ∧ c.tw < 4294967296 := fun i => by
      by_cases hi : i < len
      · obtain ⟨cs', h1, h2⟩ := hx i (by omega)
        obtain ⟨ra, ch, tw, rfl, l0, l1, l2⟩ := trod_sta h2
        obtain ⟨-, -, hc⟩ := World.cells?_some h1
        refine ⟨⟨ra, ch, tw⟩, fun _ => ⟨?_, ?_, ?_⟩, l0, l1, l2⟩
        · have := hc 0 (by omega)
          simpa [Addr.add] using this
        · exact hc 1 (by omega)
        · exact hc 2 (by omega)
      · exact ⟨⟨0, 0, 0⟩, fun h => absurd h hi, by decide, by decide, by decide⟩
    obtain ⟨C, hC⟩ := Classical.axiomOfChoice hV
    have hlen : ((List.range len).map C).length = len := by simp
    refine ⟨_, (List.range len).map C, hcs, ⟨some a', cap, by rw [hlen], by rw [hlen]; unfold maxLen at hm; omega⟩, fun hsmall => ?_, ?_⟩
    · rw [hlen] at hsmall
      refine ⟨some a', cap, by rw [hlen], by rw [hlen]; omega, ?_⟩
      rw [hlen]
      by_cases h0 : len = 0
      · exact .inl h0
      · right
        obtain ⟨b, off, spot⟩ := a'
        have hspot : spot = none := by simpa [Addr.add] using World.cell?_spot ((hC 0).1 (by omega)).1
        subst hspot
        refine ⟨b, off, rfl, fun j u hj => ?_⟩
        have hl := staCells_length ((List.range len).map C)
        rw [hlen] at hl
        have hjl : j < len * 3 := by rw [← hl]; exact (List.getElem?_eq_some_iff.1 hj).1
        obtain ⟨h0, h1, h2⟩ := staCells_at ((List.range len).map C) (j / 3) (by rw [hlen]; omega)
        obtain ⟨g0, g1, g2⟩ := (hC (j / 3)).1 (by omega)
        simp only [Go.WideShapes.add_plain] at g0 g1 g2
        simp only [List.getElem_map, List.getElem_range] at h0 h1 h2
        rcases (show j = j / 3 * 3 ∨ j = j / 3 * 3 + 1 ∨ j = j / 3 * 3 + 2 by omega) with e | e | e
        · rw [← e] at h0 g0; rw [h0] at hj; cases hj; exact g0
        · rw [← e] at h1; rw [h1] at hj; cases hj; rw [Nat.add_assoc, ← e] at g1; exact g1
        · rw [← e] at h2; rw [h2] at hj; cases hj; rw [Nat.add_assoc, ← e] at g2; exact g2
    · intro x hx'
      unfold staF at hx'
      obtain ⟨s, hs, hxs⟩ := List.mem_flatMap.1 hx'
      obtain ⟨i, -, rfl⟩ := List.mem_map.1 hs
      obtain ⟨-, l0, l1, l2⟩ := hC i
      simp only [List.mem_cons, List.not_mem_nil, or_false] at hxs
      rcases hxs with rfl | rfl | rfl <;> assumption
set_option maxRecDepth 100000 in
theorem trod_prof {H : Type} {enc : TypeId × Value → H} {w : World} {base : Nat} {spare : Nat → Bool} {held : Bool} {fuel : Nat} {cs : List Value} {x : DataW H × List MemPlace}
    (h : DataW.trod enc Try.prog w base spare held fuel 24 cs = some x) : ∃ va vl vd a l d, cs = [va, vl, vd] ∧ RFb w va a ∧ RFb w vl l ∧ RFb w vd d := by
  obtain ⟨y0, y1, y2, n, -, hl, h0, h1, h2⟩ := trod_struct3 Try.underlying24 h
  have hl' : cs.length = 3 := hl.trans (by kernel_rfl)
  have k1 : Try.prog.cellsOf 22 = 1 := by kernel_rfl
  simp only [k1] at h0 h1 h2
  match cs, hl' with
  | [a, b, c], _ =>
    obtain ⟨v0, x0, e0, r0⟩ := trod_RFb h0
    obtain ⟨v1, x1, e1, r1⟩ := trod_RFb h1
    obtain ⟨v2, x2, e2, r2⟩ := trod_RFb h2
    simp at e0 e1 e2
    exact ⟨v0, v1, v2, x0, x1, x2, by rw [e0, e1, e2], r0, r1, r2⟩
set_option maxRecDepth 100000 in
theorem open_rotor {H : Type} {enc : TypeId × Value → H} {w : World} {r : Reach} {b0 base : Nat} {spare : Nat → Bool} {held : Bool} {v : Value} {d : DataW H} {p : List MemPlace}
    (hv : Value.okWide Try.prog w r b0 28 v) (h : DataW.Trod enc Try.prog w base spare held 28 v d p) : ∃ (va vl vd vs : Value) (a l d : List Nat) (cs : List Sta) (c : Int) (hub tip : Nat), v = rotV va vl vd vs c hub tip ∧ RFb w va a ∧ RFb w vl l ∧ RFb w vd d ∧ RTb w vs cs ∧ Bd [hub, tip] := by
  obtain ⟨⟨cs⟩, rfl, hsz⟩ := okWide_struct Try.underlying28 hv
  have hC : Try.prog.cellsOf 28 = 7 := by kernel_rfl
  have hP : Try.prog.cellsOf 24 = 3 := by kernel_rfl
  have hS : Try.prog.cellsOf 25 = 1 := by kernel_rfl
  have hF : Try.prog.cellsOf 26 = 1 := by kernel_rfl
  have hI : Try.prog.cellsOf 2 = 1 := by kernel_rfl
  have hl : cs.length = 7 := hsz.trans hC
  obtain ⟨fuel, hf⟩ := h
  obtain ⟨xs, n, _, -, -, hlen, hfs⟩ := DataW.trod_struct Try.underlying28 hf
  match cs, hl, xs, hlen with
  | [a0, a1, a2, a3, a4, a5, a6], _, [y0, y1, y2, y3, y4], _ =>
    have g0 : DataW.trod enc Try.prog w base spare held n 24 [a0, a1, a2] = some y0 := by have h := hfs 0 _ rfl; simpa [Value.cells, hP] using h
    have g1 : DataW.trod enc Try.prog w base spare held n 25 [a3] = some y1 := by have h := hfs 1 _ rfl; simpa [Value.cells, hS] using h
    have g2 : DataW.trod enc Try.prog w base spare held n 2 [a4] = some y2 := by have h := hfs 2 _ rfl; simpa [Value.cells, hI] using h
    have g3 : DataW.trod enc Try.prog w base spare held n 26 [a5] = some y3 := by have h := hfs 3 _ rfl; simpa [Value.cells, hF] using h
    have g4 : DataW.trod enc Try.prog w base spare held n 26 [a6] = some y4 := by have h := hfs 4 _ rfl; simpa [Value.cells, hF] using h
    obtain ⟨va, vl, vd, a, l, d, e0, r0, r1, r2⟩ := trod_prof g0
    obtain ⟨vs, cs, e1, r3⟩ := trod_RTb g1
    obtain ⟨c, e2, -, -⟩ := DataW.trod_int Try.underlying2 g2
    obtain ⟨x3, e3, l3⟩ := trod_float_ltK Try.underlying26 g3
    obtain ⟨x4, e4, l4⟩ := trod_float_ltK Try.underlying26 g4
    simp only [List.cons.injEq, and_true] at e0 e1 e2 e3 e4
    obtain ⟨rfl, rfl, rfl⟩ := e0
    subst e1 e2 e3 e4
    refine ⟨_, _, _, _, a, l, d, cs, c, x3, x4, rfl, r0, r1, r2, r3, fun x hx => ?_⟩
    simp only [List.mem_cons, List.not_mem_nil, or_false] at hx
    rcases hx with rfl | rfl <;> assumption
end Go.Proofs.Ytglfjanclopipaa
