/- Walks: complex numbers, and lists of them. -/
import Derived.Test.YtmpmnhnobgidoaaUB
import Derived.Test.YtmpmnhnobgidoaaM
import Derived.Test.YtmpmnhnobgidoaaG
import Derived.BigQuiet
namespace Go.Proofs.Ytmpmnhnobgidoaa
set_option linter.unusedSimpArgs false
set_option linter.unusedVariables false
open Go.RowKit Go.Fl

abbrev Cx : Type := Nat × Nat
abbrev cx (p : Cx) : Value := .complex .f32 p.1 p.2
def cfin (p : Cx) : Bool := fin .f32 p.1 && fin .f32 p.2
def finX (xs : List Cx) : Bool := xs.all cfin
/-- A slice of complex numbers. -/
def RX (w : World) (v : Value) (xs : List Cx) : Prop := Sl w v xs.length (xs.map cx)
def OX (B : Nat) (w : World) (v : Value) (xs : List Cx) : Prop := w.ownsRow B 57 1 v xs.length (xs.map cx)
theorem RX_below {w w' : World} {v : Value} {xs : List Cx} (h : RX w v xs) (hb : Below w.heap.size w w') : RX w' v xs := Sl.below h (.inr trivial) hb (Nat.le_refl _)
theorem RX_of_own {B : Nat} {w : World} {v : Value} {xs : List Cx} (h : OX B w v xs) (hn : xs.length ≤ 281474976710656) : RX w v xs := Sl_of_own h hn
theorem OX_below {B : Nat} {w w' : World} {v : Value} {xs : List Cx} (h : OX B w v xs) (hb : Below w.heap.size w w') : OX B w' v xs := ownsRow_below h hb
theorem OX_nil (B : Nat) (w : World) : OX B w (.slice none 0 0) [] := World.ownsRow_nil _ _ _ _
theorem OX_empty (B : Nat) (w : World) (k : Nat) (hk : k = w.heap.size) (hB : B ≤ w.heap.size) (t : TypeId) (ht : t = 57) : OX B (w.alloc (.cells #[] t)) (.slice (some ⟨k, 0, none⟩) 0 0) [] := by
  subst hk ht
  exact World.ownsRow_lit w #[] 0 hB (by unfold maxLen; omega) rfl
/-- 'append' of one complex number to a slice of the call's own. -/
theorem wpList_appX {ops : Array Oper} {rest : List Oper} {o : Oper} {a : Act} {Q : Exit → Act → World → Prop} {w : World} (B : Nat) (xs : List Cx) (r : Cx) {s x : Operand} {v : Value} {g : Nat} (hgd : o.guard = none)
    (ho : o.op = .call { callee := .builtin .append, args := #[s, x], argTypes := #[70, 70] }) (hs : a.eval s = v) (hx : a.eval x = .slice (some ⟨g, 0, none⟩) 1 1)
    (hown : OX B w v xs) (hcell : w.cell? ⟨g, 0, none⟩ = some (cx r)) (hl : xs.length ≤ 1048576) (hB : B ≤ w.heap.size)
    (h : ∀ u w', OX B w' u (xs ++ [r]) → Below B w w' → wpList Try.prog ops Q rest (a.put o.dst u) w') : wpList Try.prog ops Q (o :: rest) a w := by
  have hinfo : (Try.prog.info? 57).map (fun i => (i.zero, i.size, i.bytes)) = some (some (.complex .f32 0 0), 1, 8) := by kernel_rfl
  obtain ⟨i, hi, hzz⟩ := Option.map_eq_some_iff.1 hinfo
  simp only [Prod.mk.injEq] at hzz
  obtain ⟨hz, hsz, hby⟩ := hzz
  refine wpList_append_own w hgd s x 70 ho B 57 i (.complex .f32 0 0) 1 8 Try.underlying70 hi hz hsz hby rfl (by decide) v xs.length _ hs hown ⟨g, 0, none⟩ 1 1 [cx r] hx rfl ?_ ?_ (by unfold maxLen; omega) (by omega) hB ?_
  · intro j u hj
    match j, hj with
    | 0, hj => simp at hj; subst hj; simpa [Addr.add] using hcell
  · intro u hu; simp at hu; subst hu; rfl
  · intro v' w' h1 h2 _
    refine h v' w' ?_ (grown_below hown h2 hB (Nat.le_refl _))
    show w'.ownsRow _ _ _ _ _ _
    simpa using h1
/-! The marks. -/
def markX (k : Nat) : Cx := (narrow (floatOfInt .f64 ((k : Nat) : Int)), 1065353216)
def marksX (n k : Nat) : List Cx := (List.range n).map fun (i : Nat) => markX (k + i)
theorem marksX_length (n k : Nat) : (marksX n k).length = n := by simp [marksX]
def markedX (xs : List Cx) (k j : Nat) : List Cx := marksX j k ++ xs.drop j
theorem markedX_length (xs : List Cx) (k j : Nat) (hj : j ≤ xs.length) : (markedX xs k j).length = xs.length := by simp [markedX, marksX_length]; omega
theorem markedX_set (xs : List Cx) (k j : Nat) (hj : j < xs.length) : ((markedX xs k j).map cx).set j (cx (markX (k + j))) = (markedX xs k (j + 1)).map cx := by
  rw [← List.map_set]
  congr 1
  apply List.ext_getElem?
  intro i
  simp only [markedX, marksX, List.getElem?_set, List.length_append, List.length_map, List.length_range, List.length_drop, List.getElem?_append, List.getElem?_map, List.getElem?_drop]
  by_cases e : j = i
  · subst e
    simp
    omega
  · rw [if_neg e]
    by_cases h : i < j
    · simp [h, show i < j + 1 by omega]
    · rw [if_neg h, if_neg (by omega)]
      congr 1
      omega
theorem markedX_zero (xs : List Cx) (k : Nat) : markedX xs k 0 = xs := by simp [markedX, marksX]
theorem markedX_all (xs : List Cx) (k j : Nat) (hj : xs.length ≤ j) (hj2 : j ≤ xs.length) : markedX xs k j = marksX xs.length k := by
  obtain rfl : j = xs.length := by omega
  simp [markedX]
theorem mark_rv {k : Nat} (h : k ≤ 200000000) : ∃ q, Rv .f64 (floatOfInt .f64 ((k : Nat) : Int)) q ∧ q < Go.Fl.two 127 ∧ -q < Go.Fl.two 127 := by
  have hr := ofInt_q .f64 ((k : Nat) : Int) (by show _ < 2 ^ 53; omega)
  refine ⟨_, hr, ?_⟩
  have h1 : ((k : Int) : Rat) ≤ ((200000000 : Int) : Rat) := Rat.intCast_le_intCast.2 (by omega)
  have h2 : ((0 : Int) : Rat) ≤ ((k : Int) : Rat) := Rat.intCast_le_intCast.2 (by omega)
  rw [show ((200000000 : Int) : Rat) = 200000000 from rfl] at h1
  rw [show ((0 : Int) : Rat) = 0 from rfl] at h2
  have := n127_big
  constructor <;> grind
theorem mark_notNan {k : Nat} (h : k ≤ 200000000) : isNan .f32 (markX k).1 = false := by
  obtain ⟨q, hq, h1, h2⟩ := mark_rv h
  obtain ⟨-, r, hr, -⟩ := narrow_q hq h1 h2
  exact hr.notNan
theorem conv_mark (k : Nat) (h : k ≤ 200000000) (w : World) : (convert 102 57 (.complex .f64 (floatOfInt .f64 ((k : Nat) : Int)) 4607182418800017408)).run Try.prog w = .ok (cx (markX k)) w := by
  obtain ⟨q, hq, h1, h2⟩ := mark_rv h
  refine run_convert_complex w 102 57 .f64 .f32 _ _ _ _ (by kernel_rfl) Try.underlying57 ?_
  unfold cConvBits
  rw [narrow_bits hq h1 h2, show floatToFloatBits .f64 4607182418800017408 .f32 = some 1065353216 by decide +kernel]
  rfl
theorem conv_wide (a b : Nat) (ha : fin .f32 a = true) (hb : fin .f32 b = true) (w : World) : (convert 57 102 (.complex .f32 a b)).run Try.prog w = .ok (.complex .f64 (widen a) (widen b)) w := by
  obtain ⟨q, hq⟩ := Rv.of_fin ha
  obtain ⟨r, hr⟩ := Rv.of_fin hb
  refine run_convert_complex w 57 102 .f32 .f64 _ _ _ _ (by kernel_rfl) Try.underlying102 ?_
  unfold cConvBits
  rw [widen_bits hq, widen_bits hr]
  rfl
set_option maxHeartbeats 400000 in
theorem l_markComplex64S (u : Value) (xs : List Cx) (k0 : Nat) (K : Int) (hK : K = (k0 : Int)) (B : Nat) (w : World) (ho : OX B w u xs) (hl : xs.length ≤ 1048576) (hk : k0 ≤ 100000000) :
    Calls Try.prog 44 #[u, .int .i64 K] w fun e w' => e = .returned (.int .i64 ((k0 + xs.length : Nat) : Int)) ∧ OX B w' u (marksX xs.length k0) ∧ w.grownBy w' u.ownBlock := by
  subst hK
  obtain ⟨hlen, hcase⟩ := id ho
  have HO := Lib.hid ho
  clear ho
  by_cases h0 : xs.length = 0
  · have hxs : xs = [] := List.eq_nil_of_length_eq_zero h0
    subst hxs
    rcases hcase with ⟨rfl, -⟩ | ⟨g, cap, cur, rfl, -⟩
    all_goals
      go_enter Try.func44, Try.ntmps44
      go_wp2_with fail
      refine wp_loop_rounds 1 ?_
      rw [rounds_succ]
      go_wp2
      go_ret
      exact ⟨by simp, HO.out, ⟨rfl, rfl, rfl, Nat.le_refl _, fun _ _ _ => rfl⟩⟩
  · rcases hcase with ⟨rfl, h⟩ | ⟨g, cap, cur, rfl, -⟩
    · exact absurd h h0
    clear hlen
    go_enter Try.func44, Try.ntmps44
    go_wp2_with fail
    go_loopw [1, 5] (fun t i wr => ∃ j : Nat, j ≤ xs.length ∧ i = .int .i64 j ∧ t = .int .i64 ((k0 + j : Nat) : Int) ∧ wr.ownsRow B 57 1 (.slice (some ⟨g, 0, none⟩) xs.length cap) xs.length ((markedX xs k0 j).map cx) ∧ w.grownBy wr (some g)) (fun _ i _ => xs.length - (intOf i).toNat)
    case atStart => exact ⟨0, Nat.zero_le _, rfl, by simp, by rw [markedX_zero]; exact HO.out, ⟨rfl, rfl, rfl, Nat.le_refl _, fun _ _ _ => rfl⟩⟩
    case round =>
      obtain ⟨j, hj, rfl, rfl, hown, hg⟩ := hrel
      by_cases hlt : j < xs.length
      · have h2 : wr.cell? ⟨g, j, none⟩ = some (cx ((markedX xs k0 j)[j]'(by rw [markedX_length _ _ _ hj]; exact hlt))) := by rw [hown.cellAt j (by omega)]; simp [markedX_length _ _ _ hj, hlt]
        have h3 : wr.frozen? ⟨g, j, none⟩ = false := hown.frozenAt j
        have h4 := hown.stored j (cx (markX (k0 + j)))
        rw [markedX_set xs k0 j hlt] at h4
        have hcv : ∀ w, (convert 102 57 (.complex .f64 (floatOfInt .f64 ((k0 : Int) + (j : Int))) 4607182418800017408)).run Try.prog w = .ok (cx (markX (k0 + j))) w := by
          have := conv_mark (k0 + j) (by omega)
          rwa [Int.natCast_add] at this
        have H4 := Lib.hid h4
        have Hg := Lib.hid hg
        clear hown hg h4
        go_wp2
        go_roundw
        case rel => exact ⟨j + 1, by omega, by go_num, by go_num, H4.out.1, ⟨H4.out.2.os.trans Hg.out.os, H4.out.2.tape.trans Hg.out.tape, H4.out.2.output.trans Hg.out.output, Nat.le_trans Hg.out.size H4.out.2.size, fun i hi hne => (H4.out.2.block i (Nat.lt_of_lt_of_le hi Hg.out.size) hne).trans (Hg.out.block i hi hne)⟩⟩
        case measure => simp [intOf]; omega
      · have hown' := hown
        rw [markedX_all xs k0 j (by omega) hj] at hown'
        obtain rfl : j = xs.length := by omega
        have Ho' : Hid (OX B wr (.slice (some ⟨g, 0, none⟩) xs.length cap) (marksX xs.length k0)) := by show wr.ownsRow _ _ _ _ _ _; rw [marksX_length]; exact hown'
        clear hown hown'
        go_wp2
        go_ret
        exact ⟨rfl, Ho'.out, hg⟩
set_option maxHeartbeats 400000 in
theorem l_heldComplex64S (u : Value) (n : Nat) (k0 : Nat) (K : Int) (hK : K = (k0 : Int)) (w : World) (hx : RX w u (marksX n k0)) (hl : n ≤ 1048576) (hk : k0 ≤ 100000000) :
    Calls Try.prog 45 #[u, .int .i64 K] w fun e w' => e = .returned (.int .i64 ((k0 + n : Nat) : Int)) ∧ ∃ n, w' = w.drewN n := by
  subst hK
  obtain ⟨p1, cap1, rfl, hm1, hc1⟩ := hx
  rw [marksX_length] at hm1 hc1
  have hml := marksX_length n k0
  go_enter Try.func45, Try.ntmps45
  go_wp2_with fail
  go_loop [1, 5] (fun t i => ∃ j : Nat, j ≤ n ∧ i = .int .i64 j ∧ t = .int .i64 ((k0 + j : Nat) : Int)) (fun _ i => n - (intOf i).toNat)
  case atStart => exact ⟨0, Nat.zero_le _, rfl, by simp⟩
  case round =>
    obtain ⟨j, hj, rfl, rfl⟩ := hrel
    by_cases hlt : j < n
    · obtain ⟨b, off, rfl, hcell⟩ := hc1.resolve_left (by omega)
      have h1 : w.cell? ⟨b, off + j, none⟩ = some (cx (markX (k0 + j))) := hcell j _ (by simp [marksX, hlt])
      have h2 : FloatKind.f32.format.order (markX (k0 + j)).1 (markX (k0 + j)).1 = some .eq := order_self (mark_notNan (by omega))
      have h3 : FloatKind.f32.format.order (markX (k0 + j)).2 (markX (k0 + j)).2 = some .eq := by show FloatKind.f32.format.order 1065353216 1065353216 = _; decide +kernel
      have hcv : ∀ w, (convert 102 57 (.complex .f64 (floatOfInt .f64 ((k0 : Int) + (j : Int))) 4607182418800017408)).run Try.prog w = .ok (cx (markX (k0 + j))) w := by
        have := conv_mark (k0 + j) (by omega)
        rwa [Int.natCast_add] at this
      generalize markX (k0 + j) = M at *
      clear hcell hc1
      go_wp2
      go_round
      case rel => exact ⟨j + 1, by omega, by go_num, by go_num⟩
      case measure => simp [intOf]; omega
    · obtain rfl : j = n := by omega
      go_wp2
      go_ret
      exact ⟨rfl, 0, rfl⟩
theorem l_sameComplex (a b : Nat) (w : World) : Calls Try.prog 79 #[.complex .f64 a b, .complex .f64 a b] w fun e w' => e = .returned (.bool true) ∧ ∃ n, w' = w.drewN n := by
  have H1 := Lib.hid (fun W => l_sameFloat a a rfl W)
  have H2 := Lib.hid (fun W => l_sameFloat b b rfl W)
  go_enter Try.func79, Try.ntmps79
  go_wp2_with (go_at_call 80; (first | (with_reducible refine (H1.out _).mono ?_) | (with_reducible refine (H2.out _).mono ?_)); rintro e w' ⟨rfl, n, rfl⟩)
  go_ret
  exact ⟨rfl, _, rfl⟩
set_option maxHeartbeats 400000 in
theorem l_eqComplex64S (v v' : Value) (xs : List Cx) (w : World) (hx : RX w v xs) (hy : RX w v' xs) (hf : finX xs = true) :
    Calls Try.prog 41 #[v, v'] w fun e w' => e = .returned (.bool true) ∧ ∃ n, w' = w.drewN n := by
  obtain ⟨p1, cap1, rfl, hm1, hc1⟩ := hx
  obtain ⟨p2, cap2, rfl, hm2, hc2⟩ := hy
  have HFX := Lib.hid hf
  have hne : (((xs.length : Nat) : Int) == ((xs.length : Nat) : Int)) = true := by simp
  have hne2 : (((xs.length : Nat) : Int) != ((xs.length : Nat) : Int)) = false := by simp
  clear hf
  go_enter Try.func41, Try.ntmps41
  go_wp2_with fail
  clear hne hne2
  go_loopw [5] (fun i wr => ∃ k n : Nat, k ≤ xs.length ∧ i = .int .i64 k ∧ Hid (wr = w.drewN n)) (fun i _ => xs.length - (intOf i).toNat)
  case atStart => exact ⟨0, 0, Nat.zero_le _, rfl, rfl⟩
  case round =>
    obtain ⟨k, n, hk, rfl, hD⟩ := hrel
    by_cases hlt : k < xs.length
    · obtain ⟨b1, o1, rfl, hcell1⟩ := hc1.resolve_left (by omega)
      obtain ⟨b2, o2, rfl, hcell2⟩ := hc2.resolve_left (by omega)
      have h1 : wr.cell? ⟨b1, o1 + k, none⟩ = some (cx xs[k]) := by rw [hD.out]; exact hcell1 k _ (by simp [hlt])
      have h2 : wr.cell? ⟨b2, o2 + k, none⟩ = some (cx xs[k]) := by rw [hD.out]; exact hcell2 k _ (by simp [hlt])
      have hfx := (List.all_eq_true.1 HFX.out) xs[k] (List.getElem_mem hlt)
      unfold cfin at hfx
      rw [Bool.and_eq_true] at hfx
      clear hcell1 hcell2 hc1 hc2
      generalize xs[k] = X at *
      obtain ⟨x1, x2⟩ := X
      have hcv := conv_wide x1 x2 hfx.1 hfx.2
      have HS := Lib.hid (fun (W : World) => l_sameComplex (widen x1) (widen x2) W)
      clear hfx
      go_wp2_with fail
      go_quiet ((go_at_call 79; with_reducible exact Calls.quiet_of (HS.out _)))
      go_wp2
      go_roundw
      case rel => exact ⟨k + 1, _, by omega, by go_num, by show _ = _; rw [hD.out, World.drewN_drewN]⟩
      case measure => simp [intOf]; omega
    · go_wp2
      go_ret
      exact ⟨rfl, _, hD.out⟩
end Go.Proofs.Ytmpmnhnobgidoaa
