/- Walks: WorstLoads. -/
import Derived.Test.YtmpmnhnobgidoaaWB
namespace Go.Proofs.Ytmpmnhnobgidoaa
set_option linter.unusedSimpArgs false
set_option linter.unusedVariables false
open Go.RowKit Go.Fl
/-- 'append' of a slice of numbers to an empty slice of the call's own. -/
theorem wpList_copyF {ops : Array Oper} {rest : List Oper} {o : Oper} {a : Act} {Q : Exit → Act → World → Prop} {w : World} (B : Nat) (xs : List Nat) {s x : Operand} {v u : Value} (hgd : o.guard = none)
    (ho : o.op = .call { callee := .builtin .append, args := #[s, x], argTypes := #[24, 24] }) (hs : a.eval s = v) (hx : a.eval x = u)
    (hown : OF B w v []) (hv : v ≠ .slice none 0 0) (hu : RF w u xs) (hne : xs ≠ []) (hl : xs.length ≤ 1048577) (hB : B ≤ w.heap.size)
    (h : ∀ u' w', OF B w' u' xs → u' ≠ .slice none 0 0 → Below B w w' → wpList Try.prog ops Q rest (a.put o.dst u') w') : wpList Try.prog ops Q (o :: rest) a w := by
  have hinfo : (Try.prog.info? 26).map (fun i => (i.zero, i.size, i.bytes)) = some (some (.float .f32 0), 1, 4) := by kernel_rfl
  obtain ⟨i, hi, hzz⟩ := Option.map_eq_some_iff.1 hinfo
  simp only [Prod.mk.injEq] at hzz
  obtain ⟨hz, hsz, hby⟩ := hzz
  obtain ⟨p, cap, rfl, hm, hc⟩ := hu
  obtain ⟨b, off, rfl, hcell⟩ := hc.resolve_left (fun e => hne (List.eq_nil_of_length_eq_zero e))
  refine wpList_append_own w hgd s x 24 ho B 26 i (.float .f32 0) 1 4 Try.underlying24 hi hz hsz hby rfl (by decide) v 0 _ hs hown ⟨b, off, none⟩ xs.length cap (xs.map (Value.float .f32)) hx (by simp) ?_ ?_ (by unfold maxLen; omega) (by omega) hB ?_
  · intro j y hj
    have e : (⟨b, off, none⟩ : Addr).add j = ⟨b, off + j, none⟩ := by
      unfold Addr.add
      by_cases h : j = 0
      · subst h; simp
      · simp [h]
    rw [e]
    exact hcell j y hj
  · intro y hy
    obtain ⟨b, _, rfl⟩ := List.mem_map.1 hy
    rfl
  · intro v' w' h1 h2 h3
    refine h v' w' ?_ (fun h0 => hv (h3.1 h0).1) (grown_below hown h2 hB (Nat.le_refl _))
    have e : 0 + xs.length = xs.length := by omega
    rw [e] at h1
    exact h1
theorem OF_setD {B : Nat} {w : World} {g cap m : Nat} {zs : List Nat} (h : OF B w (.slice (some ⟨g, 0, none⟩) m cap) zs) (hm : zs.length = m) (j x : Nat) : OF B (w.setCell ⟨g, j, none⟩ (.float .f32 x)) (.slice (some ⟨g, 0, none⟩) m cap) (zs.set j x) ∧ w.grownBy (w.setCell ⟨g, j, none⟩ (.float .f32 x)) (some g) := by
  subst hm
  have := World.ownsRow.stored h j (.float .f32 x)
  refine ⟨?_, this.2⟩
  unfold OF
  rw [List.length_set, List.map_set]
  exact this.1
theorem OI_setD {B : Nat} {w : World} {g cap m : Nat} {zs : List Int} (h : OI B w (.slice (some ⟨g, 0, none⟩) m cap) zs) (hm : zs.length = m) (j : Nat) (x : Int) : OI B (w.setCell ⟨g, j, none⟩ (.int .i64 x)) (.slice (some ⟨g, 0, none⟩) m cap) (zs.set j x) ∧ w.grownBy (w.setCell ⟨g, j, none⟩ (.int .i64 x)) (some g) := by
  subst hm
  have := World.ownsRow.stored h j (.int .i64 x)
  refine ⟨?_, this.2⟩
  unfold OI
  rw [List.length_set, List.map_set]
  exact this.1
theorem OF_at {B : Nat} {w : World} {g cap m : Nat} {zs : List Nat} (h : OF B w (.slice (some ⟨g, 0, none⟩) m cap) zs) (hm : zs.length = m) (j : Nat) (hj : j < zs.length) : w.cell? ⟨g, j, none⟩ = some (.float .f32 zs[j]) ∧ w.frozen? ⟨g, j, none⟩ = false := by
  subst hm
  refine ⟨?_, World.ownsRow.frozenAt h j⟩
  rw [World.ownsRow.cellAt h j (by omega)]; simp [hj]
theorem OI_at {B : Nat} {w : World} {g cap m : Nat} {zs : List Int} (h : OI B w (.slice (some ⟨g, 0, none⟩) m cap) zs) (hm : zs.length = m) (j : Nat) (hj : j < zs.length) : w.cell? ⟨g, j, none⟩ = some (.int .i64 zs[j]) ∧ w.frozen? ⟨g, j, none⟩ = false := by
  subst hm
  refine ⟨?_, World.ownsRow.frozenAt h j⟩
  rw [World.ownsRow.cellAt h j (by omega)]; simp [hj]
end Go.Proofs.Ytmpmnhnobgidoaa
