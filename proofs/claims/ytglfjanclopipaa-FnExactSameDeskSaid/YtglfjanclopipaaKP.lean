/- The frame of a law: numbers inside a struct that came in. -/
import Derived.Test.YtglfjanclopipaaKD
import Derived.ProofKit
import Derived.SizedLaws
import Derived.Lib.SmallJoins
import Derived.Deep.Slices
namespace Go.Proofs.Ytglfjanclopipaa
set_option linter.unusedSimpArgs false
set_option linter.unusedVariables false
open Go.ChangeShapes Go.WideShapes Go.ChangeAt Go.RowKit Go.Joins Go.Deep Go.Fl

section
variable {H : Type} {enc : TypeId × Value → H} {P : Program}
theorem trod_float_ltK {w : World} {base : Nat} {spare : Nat → Bool} {held : Bool} {fuel : Nat} {t : TypeId} {cs : List Value} {x : DataW H × List MemPlace}
    (ht : P.underlying t = some (.float .f32)) (h : DataW.trod enc P w base spare held fuel t cs = some x) : ∃ b, cs = [.float .f32 b] ∧ b < 4294967296 := by
  cases fuel with
  | zero => simp [DataW.trod] at h
  | succ n =>
    unfold DataW.trod at h
    rw [ht] at h
    split at h <;> try (simp_all; done)
    rename_i heq
    simp only [Option.some.injEq, TypeDesc.float.injEq] at heq
    subst heq
    split at h
    · rename_i hh
      obtain ⟨rfl, hw⟩ := hh
      exact ⟨_, rfl, by simpa [Lit.wf] using hw⟩
    · cases h
end
/-- Numbers as they came in: of whatever length, 32 bits each. -/
def RFb (w : World) (v : Value) (xs : List Nat) : Prop := RFn v xs.length ∧ (xs.length ≤ 1048576 → RF w v xs) ∧ Bd xs
set_option maxRecDepth 100000 in
theorem trod_RFb {H : Type} {enc : TypeId × Value → H} {w : World} {base : Nat} {spare : Nat → Bool} {held : Bool} {fuel : Nat} {cs : List Value} {x : DataW H × List MemPlace}
    (h : DataW.trod enc Try.prog w base spare held fuel 22 cs = some x) : ∃ v xs, cs = [v] ∧ RFb w v xs := by
  rcases open_slice1 Try.underlying22 (by kernel_rfl) h with ⟨hcs, -⟩ | ⟨a', len', cap', m, n, V, D, Pl, hcs, -, hl, hm, hmm, -, hx⟩
  · exact ⟨_, [], hcs, ⟨⟨_, _, rfl, by simp⟩, fun _ => ⟨_, _, rfl, by simp, .inl rfl⟩, fun x hx => by simp at hx⟩⟩
  · have hlm : len' ≤ m := by rw [hmm]; split <;> omega
    have hV : ∀ i, i < len' → ∃ b, V i = .float .f32 b ∧ b < 4294967296 := fun i hi => by
      obtain ⟨b, e, hb⟩ := trod_float_ltK Try.underlying26 (hx i (by omega)).2
      simp at e
      exact ⟨b, e, hb⟩
    have hlen : ((List.range len').map fun i => match V i with | .float _ b => b | _ => 0).length = len' := by simp
    refine ⟨_, (List.range len').map fun i => match V i with | .float _ b => b | _ => 0, hcs, ⟨some a', cap', by rw [hlen], by rw [hlen]; unfold maxLen at hm; omega⟩, fun hsmall => ?_, ?_⟩
    · rw [hlen] at hsmall
      refine ⟨some a', cap', by rw [hlen], by rw [hlen]; omega, ?_⟩
      rw [hlen]
      by_cases h0 : len' = 0
      · left; exact h0
      · right
        obtain ⟨b, off, spot⟩ := a'
        have hspot : spot = none := by simpa [Addr.add] using World.cell?_spot (hx 0 (by omega)).1
        subst hspot
        refine ⟨b, off, rfl, fun j u hj => ?_⟩
        simp only [List.map_map] at hj
        rw [List.getElem?_map] at hj
        by_cases hjl : j < len'
        · rw [List.getElem?_range hjl] at hj
          simp only [Option.map_some, Function.comp] at hj
          obtain ⟨x, hxv, -⟩ := hV j hjl
          rw [hxv] at hj
          have h1 := (hx j (by omega)).1
          rw [hxv] at h1
          cases hj
          have e : (⟨b, off, none⟩ : Addr).add j = ⟨b, off + j, none⟩ := Go.WideShapes.add_plain _ _ _
          rw [← e]; exact h1
        · rw [List.getElem?_eq_none (by simpa using hjl)] at hj
          cases hj
    · intro x hx'
      obtain ⟨i, hi, rfl⟩ := List.mem_map.1 hx'
      obtain ⟨b, hb, hlt⟩ := hV i (List.mem_range.1 hi)
      rw [hb]; exact hlt
set_option maxRecDepth 100000 in
theorem open_profile {H : Type} {enc : TypeId × Value → H} {w : World} {r : Reach} {b0 base : Nat} {spare : Nat → Bool} {held : Bool} {v : Value} {d : DataW H} {p : List MemPlace}
    (hv : Value.okWide Try.prog w r b0 24 v) (h : DataW.Trod enc Try.prog w base spare held 24 v d p) : ∃ (va vl vd : Value) (a l d : List Nat), v = profV va vl vd ∧ RFb w va a ∧ RFb w vl l ∧ RFb w vd d := by
  obtain ⟨c0, c1, c2, y0, y1, y2, n, rfl, -, -, h0, h1, h2⟩ := open_agg3 Try.underlying24 (by kernel_rfl) (by kernel_rfl) hv h
  obtain ⟨v0, x0, e0, r0⟩ := trod_RFb h0
  obtain ⟨v1, x1, e1, r1⟩ := trod_RFb h1
  obtain ⟨v2, x2, e2, r2⟩ := trod_RFb h2
  simp only [List.cons.injEq, and_true] at e0 e1 e2
  subst e0 e1 e2
  exact ⟨_, _, _, _, _, _, rfl, r0, r1, r2⟩
end Go.Proofs.Ytglfjanclopipaa
