/- Bytes that come in; what the laws of drawn inputs call. -/
import Derived.Test.YtmpmnhnobgidoaaDR
import Derived.Test.YtmpmnhnobgidoaaP
import Derived.Test.YtmpmnhnobgidoaaVL
namespace Go.Proofs.Ytmpmnhnobgidoaa
set_option linter.unusedSimpArgs false
set_option linter.unusedVariables false
open Go.ChangeShapes Go.WideShapes Go.ChangeAt Go.RowKit Go.Joins Go.Deep Go.Fl Go.Lib

def RBw (w : World) (v : Value) (bs : List Nat) : Prop := (∃ p cap, v = .slice p bs.length cap ∧ (bs.length = 0 ∨ ∃ b off, p = some ⟨b, off, none⟩ ∧ ∀ j u, (bs.map fun b : Nat => Value.int .u8 (b : Int))[j]? = some u → w.cell? ⟨b, off + j, none⟩ = some u)) ∧ ∀ b ∈ bs, b < 256
theorem RB_of {w : World} {v : Value} {bs : List Nat} (h : RBw w v bs) (hl : bs.length ≤ 1048576) : RB w v bs := by
  obtain ⟨⟨p, cap, h1, h2⟩, h3⟩ := h
  exact ⟨⟨p, cap, h1, by omega, h2⟩, h3⟩
set_option maxRecDepth 100000 in
theorem open_RB {H : Type} {enc : TypeId × Value → H} {w : World} {r : Reach} {b0 base : Nat} {spare : Nat → Bool} {held : Bool} {v : Value} {d : DataW H} {p : List MemPlace}
    (hv : Value.okWide Try.prog w r b0 22 v) (h : DataW.Trod enc Try.prog w base spare held 22 v d p) : ∃ bs : List Nat, RBw w v bs := by
  obtain ⟨fuel, hf⟩ := h
  obtain ⟨a, len, cap, rfl⟩ := okWide_slice Try.underlying22 hv
  rcases open_slice1 Try.underlying22 (by kernel_rfl) hf with ⟨hcs, -⟩ | ⟨a', len', cap', m, n, V, D, Pl, hcs, -, hl, hm, hmm, -, hx⟩
  · simp only [Value.cells] at hcs
    simp at hcs
    obtain ⟨rfl, rfl, rfl⟩ := hcs
    exact ⟨[], ⟨none, 0, rfl, .inl rfl⟩, fun _ h => by cases h⟩
  · simp only [Value.cells] at hcs
    simp at hcs
    obtain ⟨rfl, rfl, rfl⟩ := hcs
    have hlm : len ≤ m := by rw [hmm]; split <;> omega
    have hV : ∀ i, i < len → ∃ b : Nat, V i = .int .u8 (b : Int) ∧ b < 256 := fun i hi => by
      obtain ⟨b, e, -, hwf⟩ := DataW.trod_int Try.underlying5 (hx i (by omega)).2
      simp at e
      have hb : 0 ≤ b ∧ b < 256 := by
        simp [Lit.wf, IntKind.min, IntKind.max, IntKind.bits, IntKind.signed] at hwf
        omega
      exact ⟨b.toNat, by rw [e]; congr 1; omega, by omega⟩
    refine ⟨(List.range len).map fun i => match V i with | .int _ b => b.toNat | _ => 0, ⟨some a', cap, by simp, ?_⟩, ?_⟩
    · by_cases h0 : len = 0
      · left; simp [h0]
      · right
        obtain ⟨b, off, spot⟩ := a'
        have hspot : spot = none := by simpa [Addr.add] using World.cell?_spot (hx 0 (by omega)).1
        subst hspot
        refine ⟨b, off, rfl, fun j u hj => ?_⟩
        simp only [List.map_map] at hj
        rw [List.getElem?_map] at hj
        by_cases hjl : j < len
        · rw [List.getElem?_range hjl] at hj
          simp only [Option.map_some, Function.comp] at hj
          obtain ⟨x, hxv, hx2⟩ := hV j hjl
          rw [hxv] at hj
          have h1 := (hx j (by omega)).1
          rw [hxv] at h1
          have e : (⟨b, off, none⟩ : Addr).add j = ⟨b, off + j, none⟩ := Go.WideShapes.add_plain _ _ _
          rw [← e, h1, ← hj]
          simp
        · rw [List.getElem?_eq_none (by simpa using hjl)] at hj
          cases hj
    · intro b hb
      obtain ⟨i, hi, rfl⟩ := List.mem_map.1 hb
      obtain ⟨x, hxv, hx2⟩ := hV i (List.mem_range.1 hi)
      rw [hxv]
      simpa using hx2
theorem l_b10Long (v u : Value) (bs cs : List Nat) (w : World) (hv : RBw w v bs) (hu : RBw w u cs) : Calls Try.prog 9 #[v, u] w fun e w' => e = .returned (.bool (decide (1048576 < bs.length) || decide (1048576 < cs.length))) ∧ ∃ n, w' = w.drewN n := by
  obtain ⟨⟨p, cap, rfl, -⟩, -⟩ := hv
  obtain ⟨⟨q, cbp, rfl, -⟩, -⟩ := hu
  have e1 : decide (1048576 < bs.length) = decide ((1048576 : Int) < (bs.length : Int)) := by rw [decide_eq_decide]; omega
  have e2 : decide (1048576 < cs.length) = decide ((1048576 : Int) < (cs.length : Int)) := by rw [decide_eq_decide]; omega
  rw [e1, e2]
  by_cases h1 : (1048576 : Int) < (bs.length : Int)
  · go_enter Try.func9, Try.ntmps9
    go_wp2
    go_ret
    exact ⟨by simp [h1], 0, rfl⟩
  · by_cases h2 : (1048576 : Int) < (cs.length : Int)
    all_goals
      go_enter Try.func9, Try.ntmps9
      go_wp2
      go_ret
      exact ⟨by simp [h1, h2], 0, rfl⟩
theorem l_b10At (v : Value) (bs : List Nat) (i : Nat) (n : Int) (w : World) (hv : RB w v bs) (hi : i ≤ 1000000) (h1 : 2 ≤ n) (h2 : n ≤ 1000) : Calls Try.prog 11 #[v, .int .i64 (i : Int), .int .i64 n] w fun e w' => (∃ x : Int, e = .returned (.int .i64 x) ∧ 0 ≤ x ∧ x < n) ∧ ∃ n, w' = w.drewN n := by
  obtain ⟨⟨pp, cap, rfl, hm, hc⟩, hbd⟩ := hv
  have q1 : ¬ n ≤ 1 := by omega
  have q3 : ¬ n = 0 := by omega
  by_cases hlt : i < bs.length
  · obtain ⟨b, off, rfl, hcell⟩ := hc.resolve_left (by omega)
    have hlt' : (i : Int) < (bs.length : Int) := by omega
    have k0 : w.cell? ⟨b, off + i, none⟩ = some (.int .u8 ((bs[i] : Nat) : Int)) := hcell i _ (by simp [hlt])
    have kb := hbd bs[i] (List.getElem_mem hlt)
    generalize bs[i] = x at k0 kb
    have hx : RowKit.wrap64 (x : Int) = (x : Int) := by unfold RowKit.wrap64; omega
    clear hcell hc
    go_enter Try.func11, Try.ntmps11
    go_wp2
    go_ret
    exact ⟨⟨_, rfl, by first | exact Int.emod_nonneg _ (by omega) | (rw [Int.tmod_eq_emod_of_nonneg (by omega)]; exact Int.emod_nonneg _ (by omega)), by first | exact Int.emod_lt_of_pos _ (by omega) | (rw [Int.tmod_eq_emod_of_nonneg (by omega)]; exact Int.emod_lt_of_pos _ (by omega))⟩, 0, rfl⟩
  · have hlt' : ¬ (i : Int) < (bs.length : Int) := by omega
    have hw1 : IntKind.i64.wrap ((i : Int) * 37) = (i : Int) * 37 := by rw [IntKind.wrap_i64]; omega
    have hw2 : IntKind.i64.wrap ((i : Int) * 37 + 11) = (i : Int) * 37 + 11 := by rw [IntKind.wrap_i64]; omega
    go_enter Try.func11, Try.ntmps11
    go_wp2
    go_ret
    exact ⟨⟨_, rfl, by first | exact Int.emod_nonneg _ (by omega) | (rw [Int.tmod_eq_emod_of_nonneg (by omega)]; exact Int.emod_nonneg _ (by omega)), by first | exact Int.emod_lt_of_pos _ (by omega) | (rw [Int.tmod_eq_emod_of_nonneg (by omega)]; exact Int.emod_lt_of_pos _ (by omega))⟩, 0, rfl⟩
theorem l_b10Gap (x y : Nat) (a b c : Rat) (hx : Rv .f64 x a) (hy : Rv .f64 y b) (hw : Wi (a - b) c) (hc : c < 1000000000000000000) (w : World) : Calls Try.prog 17 #[.float .f64 x, .float .f64 y] w fun e w' => e = .returned (.float .f64 (gap x y)) ∧ ∃ n, w' = w.drewN n := by
  have ho := order_q hx hy
  unfold gap
  rw [flt_q hx hy]
  have hw' : Wi (b - a) c := by have := hw.neg; rwa [show -(a - b) = b - a by grind] at this
  obtain ⟨g1, k1, -⟩ := sub_w hx hy hw hc
  obtain ⟨g2, k2, -⟩ := sub_w hy hx hw' hc
  have f1 := run_arith (P := Try.prog) 37 k1
  have f2 := run_arith (P := Try.prog) 37 k2
  clear k1 k2 hx hy hw hw' hc
  by_cases h : a < b
  · rw [if_pos h] at ho
    rw [if_pos (by simpa using h)]
    clear h
    generalize fa .sub .f64 y x = r at *
    go_enter Try.func17, Try.ntmps17
    go_wp2
    go_ret
    exact ⟨rfl, 0, rfl⟩
  · rw [if_neg h] at ho
    rw [if_neg (by simpa using h)]
    have ho' : FloatKind.f64.format.order x y = some (if a = b then .eq else .gt) := ho
    clear h ho
    generalize fa .sub .f64 x y = r at *
    by_cases he : a = b
    · rw [if_pos he] at ho'
      go_enter Try.func17, Try.ntmps17
      go_wp2
      go_ret
      exact ⟨rfl, 0, rfl⟩
    · rw [if_neg he] at ho'
      go_enter Try.func17, Try.ntmps17
      go_wp2
      go_ret
      exact ⟨rfl, 0, rfl⟩
end Go.Proofs.Ytmpmnhnobgidoaa
