/- Walks: what a valid farm is, the other's: its list of all coordinates. -/
import Derived.Test.YtpkkgfjjnggijaaDoorKF
import Derived.Lib.AppendZeros
namespace Go.Proofs.YtpkkgfjjnggijaaDoor
set_option linter.unusedSimpArgs false
set_option linter.unusedVariables false
open Go.RowKit Go.Fl Go.Lib

/-- What is written into a row of the call's own is below nothing of before. -/
theorem grown_belowK {B : Nat} {w w' : World} {u : Value} {n : Nat} {cs : List Value} {e : TypeId} {s S : Nat} (h : w.ownsRow S e s u n cs) (hg : w.grownBy w' u.ownBlock) (hB : B ≤ w.heap.size) (hS : B ≤ S) : Below B w w' :=
  (Below.refl B w).grown hg hB fun k hk => Nat.le_trans hS (h.lt k hk).1
theorem wpList_appFs {ops : Array Oper} {rest : List Oper} {o : Oper} {a : Act} {Q : Exit → Act → World → Prop} {w : World} (B : Nat) (xs ys : List Nat) {s x : Operand} {u : Value} {g off cap : Nat} (hgd : o.guard = none)
    (ho : o.op = .call { callee := .builtin .append, args := #[s, x], argTypes := #[29, 29] }) (hs : a.eval s = u) (hx : a.eval x = .slice (some ⟨g, off, none⟩) ys.length cap)
    (hown : OF B w u xs) (hcell : ∀ j v, (ys.map (Value.float .f32))[j]? = some v → w.cell? ⟨g, off + j, none⟩ = some v) (hl : xs.length + ys.length ≤ 1048576) (hB : B ≤ w.heap.size)
    (h : ∀ u' w', OF B w' u' (xs ++ ys) → Below B w w' → wpList Tryd.prog ops Q rest (a.put o.dst u') w') : wpList Tryd.prog ops Q (o :: rest) a w := by
  have hinfo : (Tryd.prog.info? 22).map (fun i => (i.zero, i.size, i.bytes)) = some (some (.float .f32 0), 1, 4) := by kernel_rfl
  obtain ⟨i, hi, hzz⟩ := Option.map_eq_some_iff.1 hinfo
  simp only [Prod.mk.injEq] at hzz
  obtain ⟨hz, hsz, hby⟩ := hzz
  refine wpList_append_own w hgd s x 29 ho B 22 i (.float .f32 0) 1 4 Tryd.underlying29 hi hz hsz hby rfl (by decide) u xs.length _ hs hown ⟨g, off, none⟩ ys.length cap (ys.map (Value.float .f32)) hx (by simp) ?_ ?_ (by unfold maxLen; omega) (by omega) hB ?_
  · intro j v hj
    rw [Go.WideShapes.add_plain]
    exact hcell j v hj
  · intro v hv
    obtain ⟨b, -, rfl⟩ := List.mem_map.1 hv
    rfl
  · intro u' w' h1 h2 h3
    refine h u' w' ?_ (grown_belowK hown h2 hB (Nat.le_refl _))
    show w'.ownsRow _ _ _ _ _ _
    rw [List.length_append, List.map_append]
    exact h1
theorem run_appFs (ty : TypeId) (w : World) (B : Nat) (xs ys : List Nat) (u : Value) (g off cap : Nat) (hown : OF B w u xs) (hcell : ∀ j v, (ys.map (Value.float .f32))[j]? = some v → w.cell? ⟨g, off + j, none⟩ = some v) (hl : xs.length + ys.length ≤ 1048576) (hB : B ≤ w.heap.size) :
    ∃ u' w', (Builtin.append_ #[29, 29] ty #[u, .slice (some ⟨g, off, none⟩) ys.length cap]).run Tryd.prog w = .ok u' w' ∧ OF B w' u' (xs ++ ys) ∧ Below B w w' := by
  have hinfo : (Tryd.prog.info? 22).map (fun i => (i.zero, i.size, i.bytes)) = some (some (.float .f32 0), 1, 4) := by kernel_rfl
  obtain ⟨i, hi, hzz⟩ := Option.map_eq_some_iff.1 hinfo
  simp only [Prod.mk.injEq] at hzz
  obtain ⟨hz, hsz, hby⟩ := hzz
  obtain ⟨u', w', hr, h1, h2, h3⟩ := run_append_own (P := Tryd.prog) w B 29 ty 22 i (.float .f32 0) 1 4 Tryd.underlying29 hi hz hsz hby rfl (by decide) u xs.length _ hown ⟨g, off, none⟩ ys.length cap (ys.map (Value.float .f32)) (by simp)
    (by intro j v hj; rw [Go.WideShapes.add_plain]; exact hcell j v hj) (by intro v hv; obtain ⟨b, -, rfl⟩ := List.mem_map.1 hv; rfl) (by unfold maxLen; omega) (by omega) hB
  refine ⟨u', w', hr, ?_, grown_belowK hown h2 hB (Nat.le_refl _)⟩
  show w'.ownsRow _ _ _ _ _ _
  rw [List.length_append, List.map_append]
  exact h1
theorem step_appFs {ops : Array Oper} {o : Oper} {a : Act} {K : Act → World → Prop} {Q : Exit → Act → World → Prop} {E : Prop} {w : World} (B : Nat) (xs ys : List Nat) (s x : Operand) (u : Value) (g off cap : Nat) (hgd : o.guard = none)
    (ho : o.op = .call { callee := .builtin .append, args := #[s, x], argTypes := #[29, 29] }) (hs : a.eval s = u) (hx : a.eval x = .slice (some ⟨g, off, none⟩) ys.length cap)
    (hown : OF B w u xs) (hcell : ∀ j v, (ys.map (Value.float .f32))[j]? = some v → w.cell? ⟨g, off + j, none⟩ = some v) (hl : xs.length + ys.length ≤ 1048576) (hB : B ≤ w.heap.size)
    (h : ∀ u' w', OF B w' u' (xs ++ ys) → Below B w w' → K (a.put o.dst u') w') : if Region.wanted o (yielded ops a.tmps) = true then Oper.wp Tryd.prog o a w K Q else E := by
  have hw : Region.wanted o (yielded ops a.tmps) = true := by simp [Region.wanted, hgd]
  rw [if_pos hw]
  obtain ⟨u', w', hr, h2, h3⟩ := run_appFs o.type w B xs ys u g off cap hown hcell hl hB
  unfold Oper.wp execOp
  simp only [ho, resolve, invoke, builtin, Sem.run_bind, Sem.run_pure, Result.andThen_ok, List.map_toArray, List.map_cons, List.map_nil, hs, hx, hr]
  exact h u' w' h2 h3
set_option maxHeartbeats 1000000 in
theorem f_GrowNil (n : Nat) (h0 : 1 ≤ n) (h1 : n ≤ 1000) (w : World) : Calls Tryd.prog 76 #[.slice none 0 0, .int .i64 n] w fun e w' => ∃ u, e = .returned u ∧ OF w.heap.size w' u [] ∧ Below w.heap.size w w' := by
  have hinfo : (Tryd.prog.info? 22).map (fun i => (i.zero, i.size, i.bytes)) = some (some (.float .f32 0), 1, 4) := by kernel_rfl
  obtain ⟨i, hi, hzz⟩ := Option.map_eq_some_iff.1 hinfo
  simp only [Prod.mk.injEq] at hzz
  obtain ⟨hz, hsz, hby⟩ := hzz
  have hrz := fun ty => run_append_nil_zeros (P := Tryd.prog) w 29 3 ty 22 i (.float .f32 0) .i64 .i64 Tryd.underlying29 Tryd.underlying3 hi hz n (by omega) (by omega) (by omega) (by rw [hby]; omega)
  have hge : n ≤ grownCap w n 0 22 := grownCap_ge w _ _ _
  have hle : grownCap w n 0 22 ≤ maxLen := grownCap_le_maxLen w n 0 22 (by unfold maxLen; omega)
  generalize grownCap w n 0 22 = G at *
  have HO : Hid (∀ cs : Array Value, cs.size = G → OF w.heap.size (w.drew.alloc (.cells cs 22)) (.slice (some ⟨w.heap.size, 0, none⟩) 0 G) []) := fun cs hc =>
    ⟨rfl, .inr ⟨w.heap.size, G, cs, rfl, Nat.le_refl _, heap_alloc_new w.drew _, Nat.zero_le _, hle, by rw [hc]; simp, by simp⟩⟩
  have HC : Hid ((Builtin.zeroCells (Value.float .f32 0).cells n ++ Builtin.zeroCells (Value.float .f32 0).cells (G - n)).size = G) := by
    show _ = _
    rw [Array.size_append, size_zeroCells, size_zeroCells]
    show n * 1 + (G - n) * 1 = G
    omega
  have hg1 : G ≤ 9223372036854775807 := by unfold maxLen at hle; omega
  have hn1 : ¬ ((n : Int) < 0) := by omega
  have hn2 : (0 : Int) < (n : Int) := by omega
  clear hle hinfo hi hz hsz hby
  generalize (Builtin.zeroCells (Value.float .f32 0).cells n ++ Builtin.zeroCells (Value.float .f32 0).cells (G - n)) = cs at *
  go_enter Tryd.func76, Tryd.ntmps76
  go_wp2_with (at_builtin; refine wpList_append_run _ rfl _ _ _ _ rfl _ _ rfl rfl _ _ (hrz _) ?_)
  go_ret
  exact ⟨_, rfl, HO.out _ HC.out, below_alloc (Nat.le_refl _) (below_drewN (Below.refl _ _) 1) _⟩
set_option maxHeartbeats 2000000 in
theorem f_Concat2 (g c : Nat) (vx vy : Value) (x y : List Nat) (w : World) (g0 : w.cell? ⟨g, 0, none⟩ = some vx) (g1 : w.cell? ⟨g, 1, none⟩ = some vy) (hx : RF w vx x) (hy : RF w vy y) (hx1 : 1 ≤ x.length) (hx2 : x.length ≤ 100) (hy1 : 1 ≤ y.length) (hy2 : y.length ≤ 100) :
    Calls Tryd.prog 60 #[.slice (some ⟨g, 0, none⟩) 2 2] w fun e w' => ∃ u, e = .returned u ∧ OF w.heap.size w' u (x ++ y) ∧ Below w.heap.size w w' := by
  obtain ⟨px, cx, rfl, hmx, hcx⟩ := hx
  obtain ⟨py, cy, rfl, hmy, hcy⟩ := hy
  obtain ⟨bx, ox, rfl, gx⟩ := hcx.resolve_left (by omega)
  obtain ⟨b_y, oy, rfl, gy⟩ := hcy.resolve_left (by omega)
  have GX := Lib.hid gx
  have GY := Lib.hid gy
  have lx : Hid (1 ≤ x.length ∧ x.length ≤ 100) := ⟨hx1, hx2⟩
  have ly : Hid (1 ≤ y.length ∧ y.length ≤ 100) := ⟨hy1, hy2⟩
  clear gx gy hcx hcy hmx hmy
  have n1 : ¬ ((x.length : Int) < 0) := by omega
  have n2 : ¬ ((x.length : Int) + (y.length : Int) < 0) := by omega
  go_enter Tryd.func60, Tryd.ntmps60
  go_wp2_with fail
  go_loopw [3, 5, 11] (fun s _ i wr => w = wr ∧ ((i = .int .i64 0 ∧ s = .int .i64 0) ∨ (i = .int .i64 1 ∧ s = .int .i64 (x.length : Int)) ∨ (i = .int .i64 2 ∧ s = .int .i64 ((x.length : Int) + (y.length : Int))))) (fun _ _ i _ => 2 - (RowKit.intOf i).toNat)
  case atStart => exact ⟨rfl, .inl ⟨rfl, rfl⟩⟩
  case round =>
    obtain ⟨rfl, ⟨rfl, rfl⟩ | ⟨rfl, rfl⟩ | ⟨rfl, rfl⟩⟩ := hrel
    · go_wp2
      go_roundw
      case rel => exact ⟨trivial, .inr (.inl ⟨by go_num, by first | rfl | go_num⟩)⟩
      case measure => simp [RowKit.intOf]
    · go_wp2
      go_roundw
      case rel => exact ⟨trivial, .inr (.inr ⟨by go_num, by first | rfl | go_num⟩)⟩
      case measure => simp [RowKit.intOf]
    · have HG := Lib.hid (show ∀ W : World, Calls Tryd.prog 76 #[.slice none 0 0, .int .i64 ((x.length : Int) + (y.length : Int))] W fun e w' => ∃ u, e = .returned u ∧ OF W.heap.size w' u [] ∧ Below W.heap.size W w' from fun W => by
        have h := f_GrowNil (x.length + y.length) (by omega) (by omega) W
        rw [Int.natCast_add] at h
        exact h)
      clear n1 n2 hx1 hx2 hy1 hy2
      go_wp2_with fail
      refine (HG.out _).mono ?_
      rintro e w1 ⟨u, rfl, HO, hb⟩
      have B1 := Lib.hid hb
      have O1 := Lib.hid HO
      have g0w := g0
      have g1w := g1
      clear HO hb g0 g1
      go_wp2_with fail
      go_loopw [6, 8, 27] (fun t _ i w2 => Below w.heap.size w w2 ∧ ((i = .int .i64 0 ∧ OF w.heap.size w2 t []) ∨ (i = .int .i64 1 ∧ OF w.heap.size w2 t x) ∨ (i = .int .i64 2 ∧ OF w.heap.size w2 t (x ++ y)))) (fun _ _ i _ => 2 - (RowKit.intOf i).toNat)
      case atStart => exact ⟨B1.out, .inl ⟨rfl, O1.out⟩⟩
      case round =>
        obtain ⟨hb, ⟨rfl, ho⟩ | ⟨rfl, ho⟩ | ⟨rfl, ho⟩⟩ := hrel
        · have k0 := hcell_below g0w hb
          have kc : ∀ j v, (x.map (Value.float .f32))[j]? = some v → wr.cell? ⟨bx, ox + j, none⟩ = some v := fun j v h => hcell_below (GX.out j v h) hb
          have HK := Lib.hid kc
          have HO := Lib.hid ho
          have HB := Lib.hid hb
          clear kc ho hb
          go_wp2_with (at_builtin; refine wpList_appFs w.heap.size [] x rfl rfl rfl rfl HO.out HK.out ?_ HB.out.size ?_)
          case _ => have := lx.out; have := ly.out; simp; omega
          intro u3 w3 h1 h2
          have H1 := Lib.hid h1
          have H2 := Lib.hid h2
          clear h1 h2
          go_wp2
          go_roundw
          case rel => exact ⟨HB.out.trans H2.out, .inr (.inl ⟨by go_num, by simpa using H1.out⟩)⟩
          case measure => simp [RowKit.intOf]
        · have k0 := hcell_below g1w hb
          have kc : ∀ j v, (y.map (Value.float .f32))[j]? = some v → wr.cell? ⟨b_y, oy + j, none⟩ = some v := fun j v h => hcell_below (GY.out j v h) hb
          have HK := Lib.hid kc
          have HO := Lib.hid ho
          have HB := Lib.hid hb
          clear kc ho hb
          go_wp2_with (at_builtin; refine wpList_appFs w.heap.size x y rfl rfl rfl rfl HO.out HK.out ?_ HB.out.size ?_)
          case _ => have := lx.out; have := ly.out; simp; omega
          intro u3 w3 h1 h2
          have H1 := Lib.hid h1
          have H2 := Lib.hid h2
          clear h1 h2
          go_wp2
          go_roundw
          case rel => exact ⟨HB.out.trans H2.out, .inr (.inr ⟨by go_num, H1.out⟩)⟩
          case measure => simp [RowKit.intOf]
        · have HO := Lib.hid ho
          have HB := Lib.hid hb
          clear ho hb
          go_wp2
          go_ret
          exact ⟨_, rfl, HO.out, HB.out⟩
end Go.Proofs.YtpkkgfjjnggijaaDoor
