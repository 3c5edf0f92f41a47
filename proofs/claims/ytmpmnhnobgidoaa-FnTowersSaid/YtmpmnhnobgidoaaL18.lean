/- For every input the law FnTowers answers true. -/
import Derived.Test.YtmpmnhnobgidoaaVX
import Derived.Test.YtmpmnhnobgidoaaVY
import Derived.Test.YtmpmnhnobgidoaaWJ
import Derived.Test.YtmpmnhnobgidoaaP
import Derived.Test.YtmpmnhnobgidoaaI
import Derived.Lib.QuietBelow
namespace Go.Proofs.Ytmpmnhnobgidoaa
set_option linter.unusedSimpArgs false
set_option linter.unusedVariables false
open Go.ChangeShapes Go.WideShapes Go.ChangeAt Go.RowKit Go.Joins Go.Deep Go.Fl Go.Lib

theorem mw_facts {i : Nat} (h : i < 8) : ∃ M, Rv .f32 (mW i) M ∧ 1 / 4 ≤ M := by
  have h1 := (mw_rv (show i < 16 by omega)).1
  refine ⟨_, h1, ?_⟩
  rw [two_2]
  have : ((1 : Int) : Rat) ≤ (((i : Int) + 1 : Int) : Rat) := Rat.intCast_le_intCast.2 (by omega)
  rw [show ((1 : Int) : Rat) = 1 from rfl] at this
  grind
theorem dw_facts {l : Nat} (h : l < 4) : ∃ D, Rv .f32 (mW l) D ∧ Wi D 1 := by
  have h1 := (mw_rv (show l < 16 by omega)).1
  refine ⟨_, h1, ?_⟩
  rw [two_2]
  have a : ((0 : Int) : Rat) ≤ (((l : Int) + 1 : Int) : Rat) := Rat.intCast_le_intCast.2 (by omega)
  have b : (((l : Int) + 1 : Int) : Rat) ≤ ((4 : Int) : Rat) := Rat.intCast_le_intCast.2 (by omega)
  rw [show ((0 : Int) : Rat) = 0 from rfl] at a
  rw [show ((4 : Int) : Rat) = 4 from rfl] at b
  unfold Wi; grind
theorem sw_facts {j : Nat} (h : j < 16) : ∃ S, Rv .f32 (sW j) S ∧ Wi S 8 := by
  have h1 := (mw_rv h).2
  refine ⟨_, h1, ?_⟩
  rw [two_1]
  have a : ((0 : Int) : Rat) ≤ (((j : Int) + 1 : Int) : Rat) := Rat.intCast_le_intCast.2 (by omega)
  have b : (((j : Int) + 1 : Int) : Rat) ≤ ((16 : Int) : Rat) := Rat.intCast_le_intCast.2 (by omega)
  rw [show ((0 : Int) : Rat) = 0 from rfl] at a
  rw [show ((16 : Int) : Rat) = 16 from rfl] at b
  unfold Wi; grind
theorem pw_facts {x : Nat} (h : x < 9) : ∃ P, Rv .f32 (pW x) P ∧ Wi P 6 := by
  have h1 := pw_rv h
  refine ⟨_, h1, ?_⟩
  rw [two_1]
  have a : ((-4 : Int) : Rat) ≤ (((x : Int) - 4 : Int) : Rat) := Rat.intCast_le_intCast.2 (by omega)
  have b : (((x : Int) - 4 : Int) : Rat) ≤ ((4 : Int) : Rat) := Rat.intCast_le_intCast.2 (by omega)
  rw [show ((-4 : Int) : Rat) = -4 from rfl] at a
  rw [show ((4 : Int) : Rat) = 4 from rfl] at b
  unfold Wi; grind
theorem qw_facts {k : Nat} (h : k < 25) : ∃ F, Rv .f32 (qW k) F ∧ Wi F 6 := by
  obtain ⟨h1, h2⟩ := qw_all ⟨k, h⟩
  have g := vU_rv h1
  rw [h2, u_quart, two_2] at g
  refine ⟨_, g, ?_⟩
  have a : ((0 : Int) : Rat) ≤ ((k : Int) : Rat) := Rat.intCast_le_intCast.2 (by omega)
  have b : ((k : Int) : Rat) ≤ ((24 : Int) : Rat) := Rat.intCast_le_intCast.2 (by omega)
  rw [show ((0 : Int) : Rat) = 0 from rfl] at a
  rw [show ((24 : Int) : Rat) = 24 from rfl] at b
  unfold Wi; grind
/-- The run of the law. -/
structure RunF (m d s p v : Nat) (fs : List Nat) : Prop where
  fp : fin .f32 p = true
  fv : fin .f32 v = true
  at' : ∀ k, k ≤ 6 → fin .f32 (runAt m d s 1040187392 p v fs k).1 = true ∧ fin .f32 (runAt m d s 1040187392 p v fs k).2 = true
  ff : ∀ k, fin .f32 (fs.getD k 0) = true
theorem runF {i j l x y : Nat} {fs : List Nat} (hi : i < 8) (hj : j < 16) (hl : l < 4) (hx : x < 9) (hy : y < 9) (hf : ∀ f ∈ fs, ∃ k : Nat, k < 25 ∧ f = qW k) : RunF (mW i) (mW l) (sW j) (pW x) (pW y) fs := by
  obtain ⟨M, m1, m2⟩ := mw_facts hi
  obtain ⟨D, d1, d2⟩ := dw_facts hl
  obtain ⟨S, s1, s2⟩ := sw_facts hj
  obtain ⟨P, p1, p2⟩ := pw_facts hx
  obtain ⟨V, v1, v2⟩ := pw_facts hy
  have hF : ∀ k, ∃ F, Rv .f32 (fs.getD k 0) F ∧ Wi F 6 := fun k => by
    rw [List.getD_eq_getElem?_getD]
    cases hk : fs[k]? with
    | none => exact ⟨0, rv_zero _, by unfold Wi; grind⟩
    | some f =>
      obtain ⟨n, hn, rfl⟩ := hf f (List.mem_of_getElem? hk)
      exact qw_facts hn
  refine ⟨p1.fin, v1.fin, fun k hk => ?_, fun k => ?_⟩
  · obtain ⟨P', V', a, b, -⟩ := run_wi m1 d1 s1 p1 v1 m2 d2 s2 p2 v2 hF k hk
    exact ⟨a.fin, b.fin⟩
  · obtain ⟨F, f1, -⟩ := hF k
    exact f1.fin
theorem RunF.good {m d s p v : Nat} {fs : List Nat} (h : RunF m d s p v fs) (ht : towerOk m d s = true) (hn : fs.length = 6) : runGood m d s 1040187392 p v fs = true := by
  unfold runGood runPre
  rw [ht, h.fp, h.fv, hn]
  have ha : above 1040187392 = true := by decide +kernel
  rw [ha]
  unfold runAll
  rw [List.all_eq_true.2]
  · decide
  · intro k hk
    have hk6 := List.mem_range.1 hk
    unfold runOk
    rw [h.ff k, (h.at' (k + 1) (by omega)).1, (h.at' (k + 1) (by omega)).2]
    rfl
theorem RunF.step {m d s p v : Nat} {fs : List Nat} (h : RunF m d s p v fs) (ht : towerOk m d s = true) {k : Nat} (hk : k < 6) : stepGood m d s (runAt m d s 1040187392 p v fs k).1 (runAt m d s 1040187392 p v fs k).2 (fs.getD k 0) 1040187392 = true := by
  unfold stepGood
  rw [ht, (h.at' k (by omega)).1, (h.at' k (by omega)).2, h.ff k, show above 1040187392 = true by decide +kernel]
  rfl
theorem places_length (m d s t p v : Nat) (fs : List Nat) (k : Nat) : (places m d s t p v fs k).length = k := by simp [places]
theorem places_at (m d s t p v : Nat) (fs : List Nat) {k n : Nat} (h : k < n) : (places m d s t p v fs n).getD k 0 = (runAt m d s t p v fs (k + 1)).1 := by
  rw [List.getD_eq_getElem?_getD]; simp [places, h]
/-- How far two numbers are apart, where the answer is finite. -/
theorem l_b10GapF (x y : Nat) (hx : fin .f64 x = true) (hy : fin .f64 y = true) (hg : fin .f64 (gap x y) = true) (w : World) : Calls Try.prog 17 #[.float .f64 x, .float .f64 y] w fun e w' => e = .returned (.float .f64 (gap x y)) ∧ ∃ n, w' = w.drewN n := by
  obtain ⟨a, ha⟩ := Rv.of_fin hx
  obtain ⟨b, hb⟩ := Rv.of_fin hy
  unfold gap at hg ⊢
  cases hl : flt .f64 x y
  all_goals
    rw [hl] at hg
    simp only [if_true, Bool.false_eq_true, if_false] at hg ⊢
    have hl' : (FloatKind.f64.format.order x y == some .lt) = _ := hl
    have r1 := run_finT (P := Try.prog) 37 hg
    clear hl hg ha hb hx hy
    go_enter Try.func17, Try.ntmps17
    go_wp2
    go_ret
    exact ⟨rfl, 0, rfl⟩
theorem word_is {r x : Nat} (h : cn .f32 r = cn .f32 x) (hf : fin .f32 x = true) : r = x := by
  obtain ⟨q, hq⟩ := Rv.of_fin hf
  rw [hq.cn] at h
  have h2 : isNan .f32 r = false := by rw [← isNan_cn, h]; exact hq.notNan
  rw [cn_of_not h2] at h
  exact h
theorem FEq_is : ∀ {xs ys : List Nat}, FEq xs ys → (∀ k, fin .f32 (ys.getD k 0) = true) → xs = ys
  | [], [], _, _ => rfl
  | [], _ :: _, h, _ => by cases h
  | _ :: _, [], h, _ => by cases h
  | x :: xs, y :: ys, h, hf => by
    unfold FEq at h
    simp only [List.map_cons, List.cons.injEq] at h
    rw [word_is h.1 (hf 0), FEq_is h.2 (fun k => hf (k + 1))]
theorem Num1.is {good : Bool} {S : Nat} {w w' : World} {e : Ending} (h : Num1 good S w e w') (hg : good = true) (hf : fin .f32 S = true) : e = .returned (.tuple #[.float .f32 S, .bool true]) ∧ Below w.heap.size w w' := by
  obtain ⟨r, he, hr, hb⟩ := h
  subst hg
  have e1 : num S = S := by unfold num; rw [hf]; rfl
  rw [if_pos rfl, e1] at hr
  have := word_is hr hf
  subst this
  rw [he, hf]
  exact ⟨rfl, hb⟩
theorem Num2.is {good : Bool} {S T : Nat} {w w' : World} {e : Ending} (h : Num2 good S T w e w') (hg : good = true) (hf : fin .f32 S = true) (ht : fin .f32 T = true) : e = .returned (.tuple #[.float .f32 S, .float .f32 T, .bool true]) ∧ Below w.heap.size w w' := by
  obtain ⟨r, q, he, hr, hq, hb⟩ := h
  subst hg
  rw [hf, ht] at hr hq he
  rw [he, word_is (x := S) hr hf, word_is (x := T) hq ht]
  exact ⟨rfl, hb⟩
/-- A slice's cells, from the start of a block on. -/
def RFt (w : World) (g n : Nat) (xs : List Nat) : Prop := n = xs.length ∧ ∀ j, j < n → w.cell? ⟨g, j, none⟩ = some (.float .f32 (xs.getD j 0))
theorem RFt.below {w w' : World} {g n : Nat} {xs : List Nat} (h : RFt w g n xs) (hb : Below w.heap.size w w') : RFt w' g n xs :=
  ⟨h.1, fun j hj => (hb.cell (p := ⟨g, j, none⟩) (block_lt_of_cell (h.2 j hj))).trans (h.2 j hj)⟩
theorem OF_ownT {B : Nat} {w : World} {v : Value} {xs : List Nat} (h : OF B w v xs) (hn : 1 ≤ xs.length) : ∃ g cap, v = .slice (some ⟨g, 0, none⟩) xs.length cap ∧ RFt w g xs.length xs := by
  rcases h.2 with ⟨-, h0⟩ | ⟨g, cap, cur, rfl, -⟩
  · simp at h0
    subst h0
    simp at hn
  · exact ⟨g, cap, rfl, rfl, fun j hj => OF_cell h j hj⟩
theorem ListOut.is {good : Bool} {ys : List Nat} {w w' : World} {e : Ending} (h : ListOut good ys w e w') (hg : good = true) (hf : ∀ k, fin .f32 (ys.getD k 0) = true) : ∃ u, e = .returned (.tuple #[u, .bool true]) ∧ OF w.heap.size w' u ys ∧ Below w.heap.size w w' := by
  obtain ⟨u, zs, he, ho, hz, hb⟩ := h
  subst hg
  obtain rfl := FEq_is hz hf
  exact ⟨u, he, ho, hb⟩
theorem RunF.places {m d s p v : Nat} {fs : List Nat} (h : RunF m d s p v fs) (k : Nat) : fin .f32 ((places m d s 1040187392 p v fs 6).getD k 0) = true := by
  by_cases hk : k < 6
  · rw [places_at _ _ _ _ _ _ _ hk]; exact (h.at' (k + 1) (by omega)).1
  · rw [List.getD_eq_getElem?_getD, List.getElem?_eq_none (by rw [places_length]; omega)]; rfl
theorem RF_top4T (w : World) (k : Nat) (hk : k = w.heap.size) (a b c d : Nat) (t : TypeId) : RF (w.alloc (.cells #[.float .f32 a, .float .f32 b, .float .f32 c, .float .f32 d] t)) (.slice (some ⟨k, 0, none⟩) 4 4) [a, b, c, d] := RF_top w k hk [a, b, c, d] t (by simp)
theorem RI_top2T (w : World) (k : Nat) (hk : k = w.heap.size) (a b : Int) (t : TypeId) : RI (w.alloc (.cells #[.int .i64 a, .int .i64 b] t)) (.slice (some ⟨k, 0, none⟩) 2 2) [a, b] := by
  subst hk
  refine ⟨_, _, rfl, (by show 2 ≤ _; decide), .inr ⟨_, _, rfl, fun j u h => ?_⟩⟩
  rw [Nat.zero_add, cell_of_row _ _ _ _ t (0, 0) (heap_alloc_new w _)]
  simpa using h
theorem OI_ownT {B : Nat} {w : World} {v : Value} {xs : List Int} (h : OI B w v xs) (hn : 1 ≤ xs.length) : ∃ g cap, v = .slice (some ⟨g, 0, none⟩) xs.length cap ∧ ∀ j, j < xs.length → w.cell? ⟨g, j, none⟩ = some (.int .i64 (xs.getD j 0)) := by
  rcases id h.2 with ⟨-, h0⟩ | ⟨g, cap, cur, rfl, -⟩
  · simp at h0
    subst h0
    simp at hn
  · refine ⟨g, cap, rfl, fun j hj => ?_⟩
    rw [World.ownsRow.cellAt h j (by omega)]
    simp [hj]
/-- The list of the six crossings, in memory. -/
def Six (w : World) (u : Value) : Prop := ∃ b cap b0 cap0 b5 cap5, u = .slice (some ⟨b, 0, none⟩) 6 cap ∧ w.cell? ⟨b, 0, none⟩ = some (.slice (some ⟨b0, 0, none⟩) 2 cap0) ∧ w.cell? ⟨b0, 0, none⟩ = some (.int .i64 0) ∧ w.cell? ⟨b0, 1, none⟩ = some (.int .i64 0) ∧
  w.cell? ⟨b, 5, none⟩ = some (.slice (some ⟨b5, 0, none⟩) 2 cap5) ∧ w.cell? ⟨b5, 0, none⟩ = some (.int .i64 1) ∧ w.cell? ⟨b5, 1, none⟩ = some (.int .i64 2)
theorem OII.six {S T : Nat} {w : World} {u : Value} {us : List Value} (h : OII S T w u us sixC) : Six w u := by
  have hl : us.length = 6 := h.len
  have h0 := h.inner 0 (by omega) (by decide)
  have h5 := h.inner 5 (by omega) (by decide)
  obtain ⟨b0, cap0, e0, f0⟩ := OI_ownT h0 (by decide)
  obtain ⟨b5, cap5, e5, f5⟩ := OI_ownT h5 (by decide)
  have hr := h.row
  rcases id hr.2 with ⟨-, h0⟩ | ⟨g, cap, cur, rfl, -⟩
  · simp at h0
    subst h0
    simp at hl
  · refine ⟨g, cap, b0, cap0, b5, cap5, by rw [hl], ?_, f0 0 (by decide), f0 1 (by decide), ?_, f5 0 (by decide), f5 1 (by decide)⟩
    · rw [World.ownsRow.cellAt hr 0 (by omega), List.getElem?_eq_getElem (by omega), e0]; rfl
    · rw [World.ownsRow.cellAt hr 5 (by omega), List.getElem?_eq_getElem (by omega), e5]; rfl
/-- Where the law is at: the tower's place, what is old. -/
structure St (w W : World) (T m d s : Nat) : Prop where
  tow : TowAt W T m d s
  lt : T < W.heap.size
  below : Below w.heap.size w W
theorem St.step {w W W' : World} {T m d s : Nat} (h : St w W T m d s) (hb : Below W.heap.size W W') : St w W' T m d s :=
  ⟨h.tow.below hb h.lt, Nat.lt_of_lt_of_le h.lt hb.size, below_step (Nat.le_refl _) h.below hb⟩
theorem St.drew {w W : World} {T m d s : Nat} (h : St w W T m d s) (n : Nat) : St w (W.drewN n) T m d s :=
  ⟨h.tow.drewN n, by simpa using h.lt, below_drewN h.below n⟩
theorem St.start {w w1 : World} {m d s : Nat} (h : Below w.heap.size w w1) (t : TypeId) : St w (w1.alloc (.cells #[.float .f32 m, .float .f32 d, .float .f32 s] t)) w1.heap.size m d s :=
  ⟨tow_top w1 _ rfl m d s t, by rw [World.size_alloc]; omega, below_alloc (Nat.le_refl _) h _⟩
set_option maxRecDepth 100000 in
set_option maxHeartbeats 16000000 in
theorem l_FnTowers (v u : Value) (bs cs : List Nat) (w : World) (h0 : RBw w v bs) (h1 : RBw w u cs) : Calls Try.prog 6 #[v, u] w fun e w' => e = .returned (.bool true) ∧ Below w.heap.size w w' := by
  have HL := Lib.hid (l_b10Long v u bs cs w h0 h1)
  by_cases hl : bs.length ≤ 1048576 ∧ cs.length ≤ 1048576
  case neg =>
    have hd : (decide (1048576 < bs.length) || decide (1048576 < cs.length)) = true := by simp; omega
    rw [hd] at HL
    clear h0 h1 hl hd
    go_enter Try.func6, Try.ntmps6
    go_wp2_with fail
    refine HL.out.mono ?_
    rintro e w1 ⟨rfl, n, rfl⟩
    go_wp2
    go_ret
    exact ⟨rfl, (by repeat (first | exact Below.refl _ _ | assumption | refine below_drewN ?_ _ | refine below_alloc (Nat.le_refl _) ?_ _ | (refine Below.setCell ?_ (by first | exact Nat.le_refl _ | (simp; done) | (simp; omega) | omega) _) | (refine below_step (Nat.le_refl _) ?_ (by assumption))))⟩
  have hd : (decide (1048576 < bs.length) || decide (1048576 < cs.length)) = false := by simp; omega
  rw [hd] at HL
  have HV := Lib.hid (RB_of h0 hl.1)
  have HU := Lib.hid (RB_of h1 hl.2)
  clear h0 h1 hl hd
  go_enter Try.func6, Try.ntmps6
  go_wp2_with fail
  refine HL.out.mono ?_
  rintro e w0 ⟨rfl, n0, rfl⟩
  go_wp2_with fail
  refine (s_B10Tower v bs _ (RB_below HV.out (by repeat (first | exact Below.refl _ _ | assumption | refine below_drewN ?_ _ | refine below_alloc (Nat.le_refl _) ?_ _ | (refine Below.setCell ?_ (by first | exact Nat.le_refl _ | (simp; done) | (simp; omega) | omega) _) | (refine below_step (Nat.le_refl _) ?_ (by assumption)))))).mono ?_
  rintro e w1 ⟨⟨i, j, l, hi, hj, hl, rfl⟩, hb⟩
  have HB1 : Hid (Below w.heap.size w w1) := below_step (Nat.le_refl _) (by repeat (first | exact Below.refl _ _ | assumption | refine below_drewN ?_ _ | refine below_alloc (Nat.le_refl _) ?_ _ | (refine Below.setCell ?_ (by first | exact Nat.le_refl _ | (simp; done) | (simp; omega) | omega) _) | (refine below_step (Nat.le_refl _) ?_ (by assumption)))) hb
  have HT := Lib.hid (tow_all hi hj hl)
  have HRUN : Hid (∀ x y fs, x < 9 → y < 9 → (∀ f ∈ fs, ∃ k : Nat, k < 25 ∧ f = qW k) → RunF (mW i) (mW l) (sW j) (pW x) (pW y) fs) := fun x y fs hx hy hf => runF hi hj hl hx hy hf
  have HEN : Hid (∀ x y, x < 9 → y < 9 → EnF (mW i) (sW j) (pW x) (pW y)) := fun x y hx hy => enF hi hj hx hy
  have HREST : Hid (Rv .f32 (stepP (mW i) (mW l) (sW j) 0 0 0 1056964608) 0 ∧ Rv .f32 (stepV (mW i) (mW l) (sW j) 0 0 0 1056964608) 0) := by
    obtain ⟨M, m1, m2⟩ := mw_facts hi
    obtain ⟨D, d1, -⟩ := dw_facts hl
    obtain ⟨S, s1, -⟩ := sw_facts hj
    exact rest_rv m1 d1 s1 m2
  have HFIN : Hid (fin .f32 (mW i) = true ∧ fin .f32 (mW l) = true ∧ fin .f32 (sW j) = true) := by
    obtain ⟨M, m1, m2⟩ := mw_facts hi
    obtain ⟨D, d1, -⟩ := dw_facts hl
    obtain ⟨S, s1, -⟩ := sw_facts hj
    exact ⟨m1.fin, d1.fin, s1.fin⟩
  clear hb hi hj hl HL HV
  generalize mW i = M at *
  generalize mW l = D at *
  generalize sW j = S at *
  have r1 := wide_fin M HFIN.out.1
  have r2 := wide_fin D HFIN.out.2.1
  have r3 := wide_fin S HFIN.out.2.2
  have hok := HT.out.fok
  have HOK := Lib.hid hok
  have A4 := Lib.hid (fun W => (i_TowerRate M D S W).mono (fun e w' h => h.is HT.out.fok HT.out.frate))
  have A5 := Lib.hid (fun W => i_GainOf M D S SLOW HT.out.fok HT.out.fslow W)
  have A6 := Lib.hid (fun W => i_GainOf M D S (rate M S) HT.out.fok HT.out.fown W)
  have A7 := Lib.hid (fun W => i_AnswerOf M D S (rate M S) HT.out.fok HT.out.fown W)
  have AV : Hid (∀ W, Calls Try.prog 30 #[tow M D S] W fun e w' => e = .returned (.bool true) ∧ Below W.heap.size W w') := fun W => (i_ValidTower M D S W).mono (fun e w' h => by rw [← HOK.out]; exact h)
  have G1 := Lib.hid (fun W => l_b10GapF _ _ HT.out.fx1.fx HT.out.fx1.fy HT.out.fx1.fg W)
  have G3 := Lib.hid (fun W => l_b10GapF _ _ HT.out.fx3.fx HT.out.fx3.fy HT.out.fx3.fg W)
  have G5 := Lib.hid (fun W => l_b10GapF _ _ HT.out.fx5.fx HT.out.fx5.fy HT.out.fx5.fg W)
  have q1 := HT.out.fx1.fle
  have q3 := HT.out.fx3.fle
  have q5 := HT.out.fx5.fle
  have qi := HT.out.fim
  clear hok
  go_wp2_with fail
  obtain ⟨T, hT⟩ : ∃ T, T = w1.heap.size := ⟨_, rfl⟩
  have HST : Hid (St w (w1.alloc (.cells #[.float .f32 M, .float .f32 D, .float .f32 S] 53)) T M D S) := by rw [hT]; exact St.start HB1.out _
  rw [← hT]
  have HUS : Hid (RB (w1.alloc (.cells #[.float .f32 M, .float .f32 D, .float .f32 S] 53)) u cs) := RB_below HU.out HST.out.below
  generalize w1.alloc (.cells #[.float .f32 M, .float .f32 D, .float .f32 S] 53) = w2 at *
  clear HU HB1 hT
  refine (A4.out _).mono ?_
  rintro e w3 ⟨rfl, hb⟩
  have HS3 := Lib.hid (HST.out.step hb)
  replace HUS := Lib.hid (RB_below HUS.out hb)
  clear hb HST A4
  obtain ⟨c0, c1, c2⟩ := HS3.out.tow
  go_wp2_with fail
  refine (A5.out _).mono ?_
  rintro e w4 ⟨rfl, hb⟩
  have HS4 := Lib.hid (HS3.out.step hb)
  replace HUS := Lib.hid (RB_below HUS.out hb)
  clear hb HS3 A5 c0 c1 c2
  obtain ⟨c0, c1, c2⟩ := HS4.out.tow
  go_wp2_with fail
  refine (A6.out _).mono ?_
  rintro e w5 ⟨rfl, hb⟩
  have HS5 := Lib.hid (HS4.out.step hb)
  replace HUS := Lib.hid (RB_below HUS.out hb)
  clear hb HS4 A6 c0 c1 c2
  obtain ⟨c0, c1, c2⟩ := HS5.out.tow
  go_wp2_with fail
  refine (A7.out _).mono ?_
  rintro e w6 ⟨rfl, hb⟩
  have HS6 := Lib.hid (HS5.out.step hb)
  replace HUS := Lib.hid (RB_below HUS.out hb)
  clear hb HS5 A7 c0 c1 c2
  obtain ⟨c0, c1, c2⟩ := HS6.out.tow
  have HRATE := HT.out.frate
  have r4 := wide_fin (rate M S) HRATE
  have r8 : ∀ w, (binOp .mul 37 (.float .f64 4618760256396512830) (.float .f64 (widen (rate M S)))).run Try.prog w = .ok (.float .f64 (wrW M S)) w := run_finT _ HT.out.fwr
  have g1 := wide_fin (gainW M D S SLOW) HT.out.fslow.fgn
  have g2 := wide_fin (gainW M D S (rate M S)) HT.out.fown.fgn
  have y1 : ∀ w, (binOp .mul 37 (.float .f64 (widen (gainW M D S SLOW))) (.float .f64 (widen S))).run Try.prog w = .ok (.float .f64 (x1W M D S)) w := run_finT _ HT.out.fx1.fx
  have y2 : ∀ w, (binOp .mul 37 (.float .f64 (widen (gainW M D S (rate M S)))) (.float .f64 (widen D))).run Try.prog w = .ok (.float .f64 (x2W M D S)) w := run_finT _ HT.out.fx2
  have y3 : ∀ w, (binOp .mul 37 (.float .f64 (x2W M D S)) (.float .f64 (wrW M S))).run Try.prog w = .ok (.float .f64 (x3W M D S)) w := run_finT _ HT.out.fx3.fx
  have y4 : ∀ w, (binOp .mul 37 (.float .f64 (wrW M S)) (.float .f64 (wrW M S))).run Try.prog w = .ok (.float .f64 (x4W M S)) w := run_finT _ HT.out.fx4
  have y5 : ∀ w, (binOp .mul 37 (.float .f64 (x4W M S)) (.float .f64 (widen M))).run Try.prog w = .ok (.float .f64 (x5W M S)) w := run_finT _ HT.out.fx5.fx
  clear HRATE
  go_wp2_with fail
  refine (AV.out _).mono ?_
  rintro e w7 ⟨rfl, hb⟩
  have HS7 := Lib.hid (HS6.out.step hb)
  replace HUS := Lib.hid (RB_below HUS.out hb)
  clear hb HS6 AV c0 c1 c2
  obtain ⟨c0, c1, c2⟩ := HS7.out.tow
  go_wp2_with fail
  refine (G1.out _).mono ?_
  rintro e _ ⟨rfl, n1, rfl⟩
  clear G1
  go_wp2_with fail
  refine (G3.out _).mono ?_
  rintro e _ ⟨rfl, n3, rfl⟩
  clear G3
  go_wp2_with fail
  refine (G5.out _).mono ?_
  rintro e _ ⟨rfl, n5, rfl⟩
  clear G5
  go_wp2_with fail
  clear q1 q3 q5 qi g1 g2 y1 y2 y3 y4 y5 r4 r8 c0 c1 c2
  obtain ⟨N7, hN7⟩ : ∃ N, n1 + n3 + n5 = N := ⟨_, rfl⟩
  try rw [hN7]
  clear hN7
  refine (l_b10At u cs 0 9 _ (RB_below HUS.out (by repeat (first | exact Below.refl _ _ | assumption | refine below_drewN ?_ _ | refine below_alloc (Nat.le_refl _) ?_ _ | (refine Below.setCell ?_ (by first | exact Nat.le_refl _ | (simp; done) | (simp; omega) | omega) _) | (refine below_step (Nat.le_refl _) ?_ (by assumption))))) (by decide) (by decide) (by decide)).mono ?_
  rintro e _ ⟨⟨ax, rfl, b0, b1⟩, m0, rfl⟩
  obtain ⟨x, rfl⟩ : ∃ n : Nat, ax = (n : Int) := ⟨ax.toNat, by omega⟩
  have hx : x < 9 := by omega
  have wx : IntKind.i64.wrap ((x : Int) - 4) = (x : Int) - 4 := by rw [IntKind.wrap_i64]; omega
  have zx : ∀ w, (binOp .quo 26 (.float .f32 (floatOfInt .f32 ((x : Int) - 4))) (.float .f32 1073741824)).run Try.prog w = .ok (.float .f32 (pW x)) w := run_finT _ (pw_rv hx).fin
  have HXx := Lib.hid hx
  clear b0 b1 hx
  go_wp2_with fail
  clear wx zx
  refine (l_b10At u cs 1 9 _ (RB_below HUS.out (by repeat (first | exact Below.refl _ _ | assumption | refine below_drewN ?_ _ | refine below_alloc (Nat.le_refl _) ?_ _ | (refine Below.setCell ?_ (by first | exact Nat.le_refl _ | (simp; done) | (simp; omega) | omega) _) | (refine below_step (Nat.le_refl _) ?_ (by assumption))))) (by decide) (by decide) (by decide)).mono ?_
  rintro e _ ⟨⟨ay, rfl, b0, b1⟩, m1, rfl⟩
  obtain ⟨y, rfl⟩ : ∃ n : Nat, ay = (n : Int) := ⟨ay.toNat, by omega⟩
  have hy : y < 9 := by omega
  have wy : IntKind.i64.wrap ((y : Int) - 4) = (y : Int) - 4 := by rw [IntKind.wrap_i64]; omega
  have zy : ∀ w, (binOp .quo 26 (.float .f32 (floatOfInt .f32 ((y : Int) - 4))) (.float .f32 1073741824)).run Try.prog w = .ok (.float .f32 (pW y)) w := run_finT _ (pw_rv hy).fin
  have HXy := Lib.hid hy
  clear b0 b1 hy
  go_wp2_with fail
  clear wy zy
  refine (s_B10Winds u cs _ (RB_below HUS.out (by repeat (first | exact Below.refl _ _ | assumption | refine below_drewN ?_ _ | refine below_alloc (Nat.le_refl _) ?_ _ | (refine Below.setCell ?_ (by first | exact Nat.le_refl _ | (simp; done) | (simp; omega) | omega) _) | (refine below_step (Nat.le_refl _) ?_ (by assumption)))))).mono ?_
  rintro e w8 ⟨uW, xs, rfl, hO, hn, hq, hb⟩
  have HS8 := Lib.hid ((HS7.out.drew _).step hb)
  have HR := Lib.hid (HRUN.out x y xs HXx.out HXy.out hq)
  have HE := Lib.hid (HEN.out x y HXx.out HXy.out)
  obtain ⟨g, cap, rfl, hW⟩ := OF_ownT hO (by omega)
  have HRF := Lib.hid (RF_of_own hO (by omega))
  rw [hn] at hW HRF
  rw [hn]
  have HN := Lib.hid hn
  have HW8 := Lib.hid hW
  clear hO hq hb hn hW HS7 HUS HRUN HEN HXx HXy
  generalize pW x = P at *
  generalize pW y = V at *
  obtain ⟨c0, c1, c2⟩ := HS8.out.tow
  have HRT := Lib.hid ((i_RunTower M D S P V 1040187392 (.slice (some ⟨g, 0, none⟩) 6 cap) xs w8 HRF.out (by rw [HN.out]; decide)).mono (fun e w' h => h.is (HR.out.good HOK.out HN.out) (fun k => by rw [HN.out]; exact HR.out.places k)))
  go_wp2_with fail
  refine HRT.out.mono ?_
  rintro e w9 ⟨uL, rfl, hO, hb⟩
  have HS9 := Lib.hid (HS8.out.step hb)
  have HW9 := Lib.hid (HW8.out.below hb)
  have hpl : (places M D S 1040187392 P V xs xs.length).length = 6 := by rw [places_length, HN.out]
  obtain ⟨f, cap2, rfl, hL⟩ := OF_ownT hO (by omega)
  rw [hpl, HN.out] at hL
  rw [hpl]
  have HL9 := Lib.hid hL
  clear hO hb hL hpl HS8 HW8 HRT HRF c0 c1 c2
  obtain ⟨c0, c1, c2⟩ := HS9.out.tow
  go_wp2_with fail
  go_loopw [20, 21, 156] (fun tp tv i wr => ∃ j : Nat, j ≤ 6 ∧ i = .int .i64 (j : Int) ∧ tp = .float .f32 (runAt M D S 1040187392 P V xs j).1 ∧ tv = .float .f32 (runAt M D S 1040187392 P V xs j).2 ∧ Hid (Below w9.heap.size w9 wr)) (fun _ _ i _ => 6 - (intOf i).toNat)
  case atStart => exact ⟨0, by decide, rfl, rfl, rfl, Below.refl _ _⟩
  case round =>
    obtain ⟨j, hj, rfl, rfl, rfl, hB⟩ := hrel
    have HSr := Lib.hid (HS9.out.step hB.out)
    by_cases hlt : j < 6
    · have hlt' : (j : Int) < 6 := by omega
      clear c0 c1 c2
      obtain ⟨d0, d1, d2⟩ := HSr.out.tow
      have k3 := (HW9.out.below hB.out).2 j hlt
      have k4 := (HL9.out.below hB.out).2 j hlt
      rw [places_at _ _ _ _ _ _ _ hlt] at k4
      have HCALL : Hid (∀ W, Calls Try.prog 33 #[tow M D S, .float .f32 (runAt M D S 1040187392 P V xs j).1, .float .f32 (runAt M D S 1040187392 P V xs j).2, .float .f32 (xs.getD j 0), .float .f32 1040187392] W fun e w' => e = .returned (.tuple #[.float .f32 (runAt M D S 1040187392 P V xs (j + 1)).1, .float .f32 (runAt M D S 1040187392 P V xs (j + 1)).2, .bool true]) ∧ Below W.heap.size W w') := fun W =>
        (i_StepTower M D S _ _ _ 1040187392 W).mono (fun e w' h => h.is (HR.out.step HOK.out hlt) (HR.out.at' (j + 1) (by omega)).1 (HR.out.at' (j + 1) (by omega)).2)
      have HSAME := Lib.hid (fun W => s_SameNumberU (runAt M D S 1040187392 P V xs (j + 1)).1 (HR.out.at' (j + 1) (by omega)).1 W)
      generalize hA1 : (runAt M D S 1040187392 P V xs (j + 1)).1 = A1 at *
      generalize hB1 : (runAt M D S 1040187392 P V xs (j + 1)).2 = B1 at *
      have HA1 := Lib.hid hA1
      have HB1 := Lib.hid hB1
      clear hA1 hB1
      generalize (runAt M D S 1040187392 P V xs j).1 = A0 at *
      generalize (runAt M D S 1040187392 P V xs j).2 = B0 at *
      generalize xs.getD j 0 = F at *
      have HLT := Lib.hid hlt
      have X0 := Lib.hid (fun d os => Calls.regrown_of (HCALL.out (Sort.grow (redrawn wr d) os)))
      have e0 := cell_regrown d0
      have e1 := cell_regrown d1
      have e2 := cell_regrown d2
      have e3 := cell_regrown k3
      have e4 := cell_regrown k4
      clear hlt hj HCALL
      go_wp2_with fail
      refine wp_region_quiet_below (by kernel_rfl) (by kernel_rfl) ?_
      repeat (go_big_quiet_step (first | with_reducible exact X0.out _ _))
      refine wpQuiet_nil ?_
      intro _ hw'
      obtain ⟨⟨dq, osq⟩, hw''⟩ := hw'
      subst hw''
      have HBq := Lib.hid (below_step (Nat.le_refl _) hB.out (below_regrown wr dq osq))
      replace e4 := e4 dq osq
      clear e0 e1 e2 e3 X0
      go_wp2_with fail
      refine (HSAME.out _).mono ?_
      rintro e _ ⟨rfl, ns, rfl⟩
      go_wp2_with fail
      go_roundw
      case rel => exact ⟨j + 1, HLT.out, by go_num, by rw [HA1.out], by rw [HB1.out], below_drewN HBq.out _⟩
      case measure => have := HLT.out; simp [intOf]; omega
    · obtain rfl : j = 6 := by omega
      have hE : energyGood M D S P V = true := by unfold energyGood; rw [HOK.out, HR.out.fp, HR.out.fv]; rfl
      obtain ⟨qe, hqe⟩ := HE.out.e
      have E1 := Lib.hid (fun W => (i_EnergyOfTower M D S P V W).mono (fun e w' h => h.is hE hqe.fin))
      have hZ : stepGood M D S 0 0 0 1056964608 = true := by unfold stepGood; rw [HOK.out]; decide
      have E2 := Lib.hid (fun W => (i_StepTower M D S 0 0 0 1056964608 W).mono (fun e w' h => h.is hZ HREST.out.1.fin HREST.out.2.fin))
      have o1 : FloatKind.f32.format.order (stepP M D S 0 0 0 1056964608) 0 = some .eq := by rw [order_q HREST.out.1 (rv_zero _)]; rfl
      have o2 : FloatKind.f32.format.order (stepV M D S 0 0 0 1056964608) 0 = some .eq := by rw [order_q HREST.out.2 (rv_zero _)]; rfl
      have zP := wide_fin P HR.out.fp
      have zV := wide_fin V HR.out.fv
      have zE := wide_fin (energy M S P V) hqe.fin
      obtain ⟨_, p1⟩ := HE.out.a1
      obtain ⟨_, p2⟩ := HE.out.a2
      obtain ⟨_, p3⟩ := HE.out.a3
      obtain ⟨_, p4⟩ := HE.out.b1
      obtain ⟨_, p5⟩ := HE.out.b2
      obtain ⟨_, p6⟩ := HE.out.b3
      obtain ⟨_, p7⟩ := HE.out.w
      obtain ⟨_, p8⟩ := HE.out.t.s
      obtain ⟨_, p9⟩ := HE.out.t.t
      obtain ⟨a, b, e, q1, q2, q3, q4⟩ := HE.out.t.gaps
      obtain ⟨_, q5, -, -⟩ := gap_q q1 q2 q3 q4
      have G1 := Lib.hid (fun W => l_b10GapF _ _ q1.fin q2.fin q5.fin W)
      have olt := HE.out.t.lt
      have y1 : ∀ w, (binOp .mul 37 (.float .f64 4602678819172646912) (.float .f64 (widen M))).run Try.prog w = .ok (.float .f64 (fa .mul .f64 half64 (widen M))) w := run_finT _ p1.fin
      have y2 := run_finT (P := Try.prog) 37 p2.fin
      have y3 := run_finT (P := Try.prog) 37 p3.fin
      have y4 : ∀ w, (binOp .mul 37 (.float .f64 4602678819172646912) (.float .f64 (widen S))).run Try.prog w = .ok (.float .f64 (fa .mul .f64 half64 (widen S))) w := run_finT _ p4.fin
      have y5 := run_finT (P := Try.prog) 37 p5.fin
      have y6 := run_finT (P := Try.prog) 37 p6.fin
      have y7 : ∀ w, (binOp .add 37 (.float .f64 (fa .mul .f64 (fa .mul .f64 (fa .mul .f64 half64 (widen M)) (widen V)) (widen V))) (.float .f64 (fa .mul .f64 (fa .mul .f64 (fa .mul .f64 half64 (widen S)) (widen P)) (widen P)))).run Try.prog w = .ok (.float .f64 (en64 M S P V)) w := run_finT _ p7.fin
      have y8 := run_finT (P := Try.prog) 37 p8.fin
      have y9 : ∀ w, (binOp .mul 37 (.float .f64 4562254508917369340) (.float .f64 (fa .add .f64 4607182418800017408 (en64 M S P V)))).run Try.prog w = .ok (.float .f64 (thr 4562254508917369340 (en64 M S P V))) w := run_finT _ p9.fin
      clear p1 p2 p3 p4 p5 p6 p7 p8 p9 q1 q2 q3 q4 q5 hE hqe hZ hj hlt c0 c1 c2
      generalize thr 4562254508917369340 (en64 M S P V) = TH at *
      generalize gap (widen (energy M S P V)) (en64 M S P V) = GP at *
      obtain ⟨c0, c1, c2⟩ := HSr.out.tow
      go_wp2_with fail
      refine (E1.out _).mono ?_
      rintro e w10 ⟨rfl, hb⟩
      have HS10 := Lib.hid (HSr.out.step hb)
      clear E1 hb HSr hB c0 c1 c2
      obtain ⟨c0, c1, c2⟩ := HS10.out.tow
      go_wp2_with fail
      refine (E2.out _).mono ?_
      rintro e w11 ⟨rfl, hb⟩
      have HS11 := Lib.hid (HS10.out.step hb)
      clear E2 hb HS10 c0 c1 c2
      obtain ⟨c0, c1, c2⟩ := HS11.out.tow
      go_wp2_with fail
      refine (G1.out _).mono ?_
      rintro e _ ⟨rfl, ng, rfl⟩
      clear G1 c0 c1 c2
      have HS12 := Lib.hid ((HS11.out.drew ng).step (below_alloc (Nat.le_refl _) (Below.refl _ _) (.cells #[.float .f32 0, .float .f32 1092616192, .float .f32 0, .float .f32 1101004800] 26)))
      have c3 := HS11.out.tow
      obtain ⟨c0, c1, c2⟩ := HS12.out.tow
      obtain ⟨d0, d1, d2⟩ := HS11.out.tow
      go_wp2_with fail
      obtain ⟨wA, hA⟩ : ∃ W, W = (w11.drewN ng).alloc (.cells #[.float .f32 0, .float .f32 1092616192, .float .f32 0, .float .f32 1101004800] 26) := ⟨_, rfl⟩
      have hszA : wA.heap.size = w11.heap.size + 1 := by rw [hA, World.size_alloc]; rfl
      have hF : RF wA (.slice (some ⟨w11.heap.size, 0, none⟩) 4 4) [0, 1092616192, 0, 1101004800] := by rw [hA]; exact RF_top4T (w11.drewN ng) _ rfl 0 1092616192 0 1101004800 _
      rw [← hA] at HS12
      rw [← hA]
      have hM : RI (wA.alloc (.cells #[.int .i64 1, .int .i64 3] 2)) (.slice (some ⟨w11.heap.size + 1, 0, none⟩) 2 2) [1, 3] := RI_top2T wA _ hszA.symm 1 3 _
      have hbA : Below wA.heap.size wA (wA.alloc (.cells #[.int .i64 1, .int .i64 3] 2)) := below_alloc (Nat.le_refl _) (Below.refl _ _) _
      have HS13 := Lib.hid (HS12.out.step hbA)
      have hF2 := RF_below hF hbA
      clear HS12 hF hbA hszA hA c0 c1 c2 c3 d0 d1 d2
      generalize wA.alloc (.cells #[.int .i64 1, .int .i64 3] 2) = wB at *
      have hgood : crossGood M D S [1, 3] [0, 1092616192, 0, 1101004800] = true := by unfold crossGood; rw [HOK.out, HT.out.frate]; decide
      have hres : crossRes M D S [1, 3] [0, 1092616192, 0, 1101004800] = sixC := by unfold crossRes; rw [hgood]; exact HT.out.fcr
      refine (i_CrossingsOf M D S _ _ _ _ wB hM hF2).mono ?_
      rintro e w14 ⟨u6, us, rfl, hO, hb⟩
      rw [hres] at hO
      rw [hgood]
      obtain ⟨b, capb, b0, cap0, b5, cap5, rfl, k1, k2, k3, k4, k5, k6⟩ := hO.six
      have HS14 := Lib.hid (HS13.out.step hb)
      clear hO hgood hres hM hF2 hb HS13
      go_wp2_with fail
      go_ret
      exact ⟨rfl, HS14.out.below⟩
set_option maxRecDepth 100000 in
theorem FnTowers_lifted (os : Os) (started : os.Started) (H : Type) (enc : TypeId × Value → H) :
    ReturnsInHanded {} Try.checked os 6 .any (Rows.fnTowersSpec.pre6 enc Try.prog Try.f6 Rows.fnTowersRow.domain false) (Rows.fnTowersSpec.post enc Try.prog Try.f6 false true false false) := by
  refine returnsInHanded_of_change_sized (C := Try.checked) Try.own started (by as_aux_lemma => kernel_rfl) Try.func6
    (ChangeSpec.witness6 (enc := enc) (C := Try.checked) false ⟨#[], #[.slice none 0 0, .slice none 0 0], []⟩ 8 (by as_aux_lemma => kernel_rfl) (by as_aux_lemma => kernel_rfl) (by as_aux_lemma => kernel_rfl) (by as_aux_lemma => kernel_rfl)) ?_
  intro W base args ds gs before hval0 hW hcnd0 hsz0 _
  have hval : ∀ (j : Nat) t v, Try.f6.params[j]? = some t → args[j]? = some v → Value.okWide Try.prog W .any base t v := hval0
  have hsz : (DataW.weightsEach Try.prog (Try.f6.params.toList ++ Rows.fnTowersSpec.plain.varTypes Try.prog) (ds ++ gs)).all (· ≤ reachBytes) = true := hsz0
  have hW' := hW
  obtain ⟨p, q, hA0, hV, rfl, hfz, hnd⟩ := hW
  have hA : DataW.TrodAll enc Try.prog W 0 (fun _ => true) true Try.f6.params.toList args.toList ds p := hA0
  rw [Try.params6] at hA hval hsz
  obtain ⟨rfl, rfl⟩ := trodVars_none hV
  obtain ⟨v0, vs0, d0, ds0, p0, q0, ha0, rfl, rfl, h0, r0⟩ := trodAll_cons hA
  obtain ⟨v1, vs1, d1, ds1, p1, q1, rfl, rfl, rfl, h1, r1⟩ := trodAll_cons r0
  obtain ⟨rfl, rfl, rfl⟩ := trodAll_nil r1
  obtain rfl : args = #[v0, v1] := by apply Array.ext'; exact ha0
  obtain ⟨v, R_v⟩ := open_RB (hval 0 _ v0 rfl rfl) h0
  obtain ⟨u, R_u⟩ := open_RB (hval 1 _ v1 rfl rfl) h1
  refine (l_FnTowers v0 v1 v u W R_v R_u).mono fun e W' ⟨he, hb⟩ => ?_
  subst he
  exact ⟨_, rfl, post_law Try.laidOut (by as_aux_lemma => kernel_rfl) rfl Try.underlying4 hW' rfl ⟨rfl, rfl, rfl⟩ hb⟩

theorem FnTowers_holds : Rows.FnTowersSaid :=
  OpenClaim.holds_of_wide 6 Try.f6 rfl rfl rfl rfl rfl rfl rfl ⟨rfl, rfl, rfl, rfl, rfl⟩ rfl rfl rfl rfl rfl (by as_aux_lemma => kernel_rfl) Try.func6 (by as_aux_lemma => kernel_rfl)
    (of_decide_eq_true (by as_aux_lemma => kernel_rfl)) (by unfold Func.isWrapper; rw [if_neg (of_decide_eq_false (by as_aux_lemma => kernel_rfl))]; exact ⟨rfl, rfl⟩)
    (fun os started H enc _ => FnTowers_lifted os started H enc)
end Go.Proofs.Ytmpmnhnobgidoaa
