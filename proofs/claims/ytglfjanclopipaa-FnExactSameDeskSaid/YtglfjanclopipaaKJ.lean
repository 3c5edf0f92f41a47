/- Walks: lists of stations. -/
import Derived.Test.YtglfjanclopipaaKI
import Derived.Test.YtglfjanclopipaaR
namespace Go.Proofs.Ytglfjanclopipaa
set_option linter.unusedSimpArgs false
set_option linter.unusedVariables false
open Go.RowKit Go.Fl Go.Lib

/-- A station. -/
structure Sta where
  ra : Nat
  ch : Nat
  tw : Nat
abbrev sta (c : Sta) : Value := .agg #[.float .f32 c.ra, .float .f32 c.ch, .float .f32 c.tw]
def staCells : List Sta → List Value
  | [] => []
  | c :: cs => .float .f32 c.ra :: .float .f32 c.ch :: .float .f32 c.tw :: staCells cs
theorem staCells_length (cs : List Sta) : (staCells cs).length = cs.length * 3 := by
  induction cs with
  | nil => rfl
  | cons c cs ih => simp [staCells, ih]; omega
theorem staCells_at (cs : List Sta) (k : Nat) (h : k < cs.length) :
    (staCells cs)[k * 3]? = some (.float .f32 cs[k].ra) ∧ (staCells cs)[k * 3 + 1]? = some (.float .f32 cs[k].ch) ∧ (staCells cs)[k * 3 + 2]? = some (.float .f32 cs[k].tw) := by
  induction cs generalizing k with
  | nil => simp at h
  | cons c cs ih =>
    cases k with
    | zero => simp [staCells]
    | succ k =>
      obtain ⟨h1, h2, h3⟩ := ih k (by simpa using h)
      have e : (k + 1) * 3 = k * 3 + 3 := by omega
      rw [e]
      refine ⟨?_, ?_, ?_⟩
      · simpa [staCells] using h1
      · simpa [staCells] using h2
      · simpa [staCells] using h3
def RT (w : World) (v : Value) (cs : List Sta) : Prop := Sl w v cs.length (staCells cs)
theorem RT_below {w w' : World} {v : Value} {cs : List Sta} (h : RT w v cs) (hb : Below w.heap.size w w') : RT w' v cs := Sl.below h (.inr trivial) hb (Nat.le_refl _)
/-- The cells of one cycle. -/
def StaAt (w : World) (b o : Nat) (c : Sta) : Prop := w.cell? ⟨b, o, none⟩ = some (.float .f32 c.ra) ∧ w.cell? ⟨b, o + 1, none⟩ = some (.float .f32 c.ch) ∧ w.cell? ⟨b, o + 2, none⟩ = some (.float .f32 c.tw)
theorem StaAt_of {w : World} {b off : Nat} {cs : List Sta} (h : ∀ j u, (staCells cs)[j]? = some u → w.cell? ⟨b, off + j, none⟩ = some u) (k : Nat) (hk : k < cs.length) : StaAt w b (off + k * 3) cs[k] := by
  obtain ⟨h1, h2, h3⟩ := staCells_at cs k hk
  exact ⟨h _ _ h1, by rw [Nat.add_assoc]; exact h _ _ h2, by rw [Nat.add_assoc]; exact h _ _ h3⟩

theorem l_toStation (c : Sta) (w : World) : Calls Try.prog 111 #[sta c] w fun e w' => e = .returned (sta c) ∧ Below w.heap.size w w' := by
  obtain ⟨ra, ch, tw⟩ := c
  go_enter Try.func111, Try.ntmps111
  go_wp2
  exact bodyPost_ret (v := sta ⟨ra, ch, tw⟩) (by simp [results, Try.results111, go_sem]) rfl ⟨rfl, (by repeat (first | exact Below.refl _ _ | assumption | refine below_drewN ?_ _ | refine below_alloc (Nat.le_refl _) ?_ _ | (refine Below.setCell ?_ (by first | exact Nat.le_refl _ | (simp; done) | (simp; omega) | omega) _) | (refine below_step (Nat.le_refl _) ?_ (by assumption))))⟩
set_option maxHeartbeats 400000 in
theorem l_eqStation (c : Sta) (w : World) : Calls Try.prog 115 #[sta c, sta c] w fun e w' => e = .returned (.bool true) ∧ Below w.heap.size w w' := by
  obtain ⟨ra, ch, tw⟩ := c
  have H1' := hrfl (cn .f32 ra)
  have H2' := hrfl (cn .f32 ch)
  have H3' := hrfl (cn .f32 tw)
  go_enter Try.func115, Try.ntmps115
  go_wp2_with (first | (refine wpList_widen (dst := 114) rfl rfl rfl (by kernel_rfl) (by exact Try.underlying114) (by first | assumption | exact hrfl _) ?_; intro r n hr) | (go_at_call 71; refine (l_sameFloat _ _ (Eq.trans (Hid.out (by assumption)) (Eq.symm (Hid.out (by assumption)))) _).mono ?_; rintro e w' ⟨rfl, n, rfl⟩))
  go_ret
  exact ⟨rfl, (by repeat (first | exact Below.refl _ _ | assumption | refine below_drewN ?_ _ | refine below_alloc (Nat.le_refl _) ?_ _ | (refine Below.setCell ?_ (by first | exact Nat.le_refl _ | (simp; done) | (simp; omega) | omega) _) | (refine below_step (Nat.le_refl _) ?_ (by assumption))))⟩
theorem l_szStationS (p : Option Addr) (n cap : Nat) (left : Int) (h0 : 0 ≤ left) (h1 : left ≤ 1048576) (hn : n ≤ 9223372036854775807) (w : World) :
    Calls Try.prog 53 #[.slice p n cap, .int .i64 left] w fun e w' => e = .returned (.int .i64 (if left - n < 0 then -1 else left - n)) ∧ ∃ n, w' = w.drewN n := by
  by_cases hl : left - n < 0
  all_goals
    go_enter Try.func53, Try.ntmps53
    go_wp2
    go_ret
    exact ⟨by simp [hl], 0, rfl⟩
def zeroSta : Sta := ⟨0, 0, 0⟩
def partS (cs : List Sta) (k : Nat) : List Sta := cs.take k ++ List.replicate (cs.length - k) zeroSta
theorem partS_length (cs : List Sta) (k : Nat) (hk : k ≤ cs.length) : (partS cs k).length = cs.length := by simp [partS]; omega
def OT (B : Nat) (w : World) (v : Value) (cs : List Sta) : Prop := w.ownsRow B 101 3 v cs.length (staCells cs)
theorem OT_below {B : Nat} {w w' : World} {v : Value} {cs : List Sta} (h : OT B w v cs) (hb : Below w.heap.size w w') : OT B w' v cs := ownsRow_below h hb
theorem RT_of_own {B : Nat} {w : World} {v : Value} {cs : List Sta} (h : OT B w v cs) (hn : cs.length ≤ 281474976710656) : RT w v cs := Sl_of_own h hn
theorem list3_ext {a b : List Value} {n : Nat} (ha : a.length = n * 3) (hb : b.length = n * 3) (h : ∀ k, k < n → a[k * 3]? = b[k * 3]? ∧ a[k * 3 + 1]? = b[k * 3 + 1]? ∧ a[k * 3 + 2]? = b[k * 3 + 2]?) : a = b := by
  apply List.ext_getElem?
  intro j
  by_cases hj : j < n * 3
  · obtain ⟨h0, h1, h2⟩ := h (j / 3) (by omega)
    rcases (show j = j / 3 * 3 ∨ j = j / 3 * 3 + 1 ∨ j = j / 3 * 3 + 2 by omega) with e | e | e
    · rw [← e] at h0; exact h0
    · rw [← e] at h1; exact h1
    · rw [← e] at h2; exact h2
  · rw [List.getElem?_eq_none (by omega), List.getElem?_eq_none (by omega)]
theorem made_sta (n : Nat) : (madeCells #[Value.float .f32 0, .float .f32 0, .float .f32 0] (n * 3)).toList = staCells (List.replicate n zeroSta) := by
  refine list3_ext (n := n) (by simp [size_madeCells]) (by simp [staCells_length]) fun k hk => ?_
  obtain ⟨h0, h1, h2⟩ := staCells_at (List.replicate n zeroSta) k (by simpa using hk)
  rw [h0, h1, h2]
  have e0 : k * 3 % 3 = 0 := by omega
  have e1 : (k * 3 + 1) % 3 = 1 := by omega
  have e2 : (k * 3 + 2) % 3 = 2 := by omega
  refine ⟨?_, ?_, ?_⟩
  · simp [madeCells, show k * 3 < n * 3 by omega, zeroSta]
  · simp [madeCells, show k * 3 + 1 < n * 3 by omega, e1, zeroSta]
  · simp [madeCells, show k * 3 + 2 < n * 3 by omega, e2, zeroSta]
theorem staCells_set (cs : List Sta) (k : Nat) (c : Sta) (hk : k < cs.length) : (((staCells cs).set (k * 3) (.float .f32 c.ra)).set (k * 3 + 1) (.float .f32 c.ch)).set (k * 3 + 2) (.float .f32 c.tw) = staCells (cs.set k c) := by
  refine list3_ext (n := cs.length) (by simp [staCells_length]) (by simp [staCells_length]) fun j hj => ?_
  obtain ⟨h0, h1, h2⟩ := staCells_at (cs.set k c) j (by simpa using hj)
  obtain ⟨g0, g1, g2⟩ := staCells_at cs j hj
  have hl := staCells_length cs
  rw [h0, h1, h2]
  by_cases e : k = j
  · subst e
    simp [List.getElem?_set, hl, show k * 3 < cs.length * 3 by omega, show k * 3 + 1 < cs.length * 3 by omega, show k * 3 + 2 < cs.length * 3 by omega]
  · simp only [List.getElem?_set, List.getElem_set_ne e]
    rw [if_neg (by omega), if_neg (by omega), if_neg (by omega), if_neg (by omega), if_neg (by omega), if_neg (by omega), if_neg (by omega), if_neg (by omega), if_neg (by omega)]
    exact ⟨g0, g1, g2⟩
theorem partS_set (cs : List Sta) (k : Nat) (hk : k < cs.length) : (partS cs k).set k cs[k] = partS cs (k + 1) := by
  apply List.ext_getElem?
  intro j
  have h1 : (cs.take k).length = k := by simp; omega
  have h2 : (cs.take (k + 1)).length = k + 1 := by simp; omega
  simp only [partS, List.getElem?_set, List.length_append, List.length_replicate, h1, List.getElem?_append, h2, List.getElem?_take, List.getElem?_replicate]
  by_cases e : k = j
  · subst e
    simp [hk]
    omega
  · rw [if_neg e]
    by_cases h3 : j < k
    · simp [h3, show j < k + 1 by omega]
    · have h4 : ¬ j < k + 1 := by omega
      simp only [h3, h4, if_false]
      by_cases h5 : j - k < cs.length - k
      · rw [if_pos h5, if_pos (by omega)]
      · rw [if_neg h5, if_neg (by omega)]
theorem partS_all (cs : List Sta) (k : Nat) (hk : cs.length ≤ k) : partS cs k = cs := by
  unfold partS; rw [List.take_of_length_le hk, show cs.length - k = 0 by omega]; simp
set_option maxHeartbeats 1000000 in
theorem l_toStationS (v : Value) (cs : List Sta) (w : World) (hx : RT w v cs) (hl : cs.length ≤ 1048576) :
    Calls Try.prog 60 #[v] w fun e w' => ∃ u, e = .returned u ∧ OT w.heap.size w' u cs ∧ Below w.heap.size w w' := by
  obtain ⟨p1, cap1, rfl, hm1, hc1⟩ := hx
  have hmk : ∀ w : World, (Instr.makeSlice 42 (.int .i64 (cs.length : Int)) (.int .i64 (cs.length : Int))).run Try.prog w = .ok (.slice (some ⟨w.heap.size, 0, none⟩) cs.length cs.length) (w.alloc (.cells (madeCells #[Value.float .f32 0, .float .f32 0, .float .f32 0] (cs.length * 3)) 101)) := fun w => by
    have hinfo : (Try.prog.info? 101).map (fun i => (i.zero, i.size, i.bytes)) = some (some (.agg #[.float .f32 0, .float .f32 0, .float .f32 0]), 3, 12) := by kernel_rfl
    obtain ⟨i, hi, hzz⟩ := Option.map_eq_some_iff.1 hinfo
    simp only [Prod.mk.injEq] at hzz
    obtain ⟨hz, hs, hb⟩ := hzz
    have hr := run_make (P := Try.prog) w 42 101 i _ Try.underlying42 hi hz .i64 .i64 cs.length cs.length (by omega) (by omega) (by rw [hb]; omega) (by omega)
    simp only [Int.toNat_natCast, hs] at hr
    exact hr
  have hstart := World.ownsRow_lit (base := w.heap.size) (e := 101) (size := 3) w (madeCells #[Value.float .f32 0, .float .f32 0, .float .f32 0] (cs.length * 3)) cs.length (Nat.le_refl _) (by unfold maxLen; omega) (by rw [size_madeCells])
  rw [made_sta] at hstart
  have Hs := Lib.hid hstart
  clear hstart
  obtain ⟨B, hB⟩ : ∃ B, B = w.heap.size := ⟨_, rfl⟩
  have HB := Lib.hid hB
  go_enter Try.func60, Try.ntmps60
  go_wp2_with fail
  rw [← hB]
  clear hB hmk
  go_loopw [4] (fun i wr => ∃ k : Nat, k ≤ cs.length ∧ i = .int .i64 k ∧ wr.ownsRow B 101 3 (.slice (some ⟨B, 0, none⟩) cs.length cs.length) cs.length (staCells (partS cs k)) ∧ Below B w wr) (fun i _ => cs.length - (RowKit.intOf i).toNat)
  case atStart => exact ⟨0, Nat.zero_le _, rfl, by rw [HB.out]; exact Hs.out, by rw [HB.out]; exact (by repeat (first | exact Below.refl _ _ | assumption | refine below_drewN ?_ _ | refine below_alloc (Nat.le_refl _) ?_ _ | (refine Below.setCell ?_ (by first | exact Nat.le_refl _ | (simp; done) | (simp; omega) | omega) _) | (refine below_step (Nat.le_refl _) ?_ (by assumption))))⟩
  case round =>
    obtain ⟨k, hk, rfl, hown, hb⟩ := hrel
    by_cases hlt : k < cs.length
    · obtain ⟨b, off, rfl, hcell⟩ := hc1.resolve_left (by omega)
      obtain ⟨c1, c2, c3⟩ := StaAt_of hcell k hlt
      obtain ⟨e1, e2, e3⟩ := staCells_at (partS cs k) k (by rw [partS_length _ _ hk]; exact hlt)
      have h1 := (hb.cell (p := ⟨b, off + k * 3, none⟩) (by rw [HB.out]; exact block_lt_of_cell c1)).trans c1
      have h2 := (hb.cell (p := ⟨b, off + k * 3 + 1, none⟩) (by rw [HB.out]; exact block_lt_of_cell c2)).trans c2
      have h3 := (hb.cell (p := ⟨b, off + k * 3 + 2, none⟩) (by rw [HB.out]; exact block_lt_of_cell c3)).trans c3
      have d1 := (hown.cellAt (k * 3) (by omega)).trans e1
      have d2 := (hown.cellAt (k * 3 + 1) (by omega)).trans e2
      have d3 := (hown.cellAt (k * 3 + 2) (by omega)).trans e3
      have HO := Lib.hid hown
      have HS := Lib.hid (partS_set cs k hlt)
      have Hb := Lib.hid hb
      clear hcell hc1 c1 c2 c3 e1 e2 e3 hb hown
      generalize cs[k] = c at h1 h2 h3 HS
      obtain ⟨ra, ch, tw⟩ := c
      simp only at h1 h2 h3
      go_wp2_with fail
      refine (l_toStation ⟨ra, ch, tw⟩ _).mono ?_
      rintro e w' ⟨rfl, hb1⟩
      have o1 := ownsRow_below HO.out hb1
      have f1 := o1.frozenAt (k * 3)
      have f2 := o1.frozenAt (k * 3 + 1)
      have f3 := o1.frozenAt (k * 3 + 2)
      have hB0 : B < wr.heap.size := block_lt_of_cell d1
      have g1 := (hb1.cell (p := ⟨B, k * 3, none⟩) hB0).trans d1
      have g2 := (hb1.cell (p := ⟨B, k * 3 + 1, none⟩) hB0).trans d2
      have g3 := (hb1.cell (p := ⟨B, k * 3 + 2, none⟩) hB0).trans d3
      have O1 := Lib.hid o1
      have Hb1 := Lib.hid hb1
      clear o1 hb1 h1 h2 h3 d1 d2 d3
      go_wp2
      go_roundw
      case rel =>
        refine ⟨k + 1, by omega, by go_num, ?_, ?_⟩
        · have s1 := (O1.out.stored (k * 3) (.float .f32 ra)).1
          have s2 := (s1.stored (k * 3 + 1) (.float .f32 ch)).1
          have s3 := (s2.stored (k * 3 + 2) (.float .f32 tw)).1
          rw [staCells_set (partS cs k) k ⟨ra, ch, tw⟩ (by rw [partS_length _ _ hk]; exact hlt), HS.out] at s3
          exact s3
        · exact (((Hb.out.trans (Hb1.out.mono (Nat.le_of_lt hB0))).setCell (Nat.le_refl _) _).setCell (Nat.le_refl _) _).setCell (Nat.le_refl _) _
      case measure => simp [RowKit.intOf]; omega
    · have hown' : wr.ownsRow B 101 3 (.slice (some ⟨B, 0, none⟩) cs.length cs.length) cs.length (staCells cs) := by rw [← congrArg staCells (partS_all cs k (by omega))]; exact hown
      go_wp2
      go_ret
      exact ⟨_, rfl, by rw [← HB.out]; exact hown', by rw [← HB.out]; exact hb⟩
set_option maxHeartbeats 1000000 in
theorem l_eqStationS (v v' : Value) (cs : List Sta) (w : World) (hx : RT w v cs) (hy : RT w v' cs) :
    Calls Try.prog 70 #[v, v'] w fun e w' => e = .returned (.bool true) ∧ Below w.heap.size w w' := by
  obtain ⟨p1, cap1, rfl, hm1, hc1⟩ := hx
  obtain ⟨p2, cap2, rfl, hm2, hc2⟩ := hy
  have hne : (((cs.length : Nat) : Int) == ((cs.length : Nat) : Int)) = true := by simp
  have hne2 : (((cs.length : Nat) : Int) != ((cs.length : Nat) : Int)) = false := by simp
  go_enter Try.func70, Try.ntmps70
  go_wp2_with fail
  clear hne hne2
  go_loopw [5] (fun i wr => ∃ k : Nat, k ≤ cs.length ∧ i = .int .i64 k ∧ Below w.heap.size w wr) (fun i _ => cs.length - (RowKit.intOf i).toNat)
  case atStart => exact ⟨0, Nat.zero_le _, rfl, Below.refl _ _⟩
  case round =>
    obtain ⟨k, hk, rfl, hb0⟩ := hrel
    by_cases hlt : k < cs.length
    · obtain ⟨b1, o1, rfl, hcell1⟩ := hc1.resolve_left (by omega)
      obtain ⟨b2, o2, rfl, hcell2⟩ := hc2.resolve_left (by omega)
      obtain ⟨c1, c2, c3⟩ := StaAt_of hcell1 k hlt
      obtain ⟨d1, d2, d3⟩ := StaAt_of hcell2 k hlt
      have c1 := (hb0.cell (p := ⟨b1, o1 + k * 3, none⟩) (block_lt_of_cell c1)).trans c1
      have c2 := (hb0.cell (p := ⟨b1, o1 + k * 3 + 1, none⟩) (block_lt_of_cell c2)).trans c2
      have c3 := (hb0.cell (p := ⟨b1, o1 + k * 3 + 2, none⟩) (block_lt_of_cell c3)).trans c3
      have d1 := (hb0.cell (p := ⟨b2, o2 + k * 3, none⟩) (block_lt_of_cell d1)).trans d1
      have d2 := (hb0.cell (p := ⟨b2, o2 + k * 3 + 1, none⟩) (block_lt_of_cell d2)).trans d2
      have d3 := (hb0.cell (p := ⟨b2, o2 + k * 3 + 2, none⟩) (block_lt_of_cell d3)).trans d3
      have Hb0 := Lib.hid hb0
      clear hcell1 hcell2 hc1 hc2 hb0
      generalize cs[k] = c at c1 c2 c3 d1 d2 d3
      obtain ⟨ra, ch, tw⟩ := c
      simp only at c1 c2 c3 d1 d2 d3
      have c1 : ∀ x : Later wr, x.to.cell? ⟨b1, o1 + k * 3, none⟩ = some (.float .f32 ra) := fun x => x.cell c1
      have c2 : ∀ x : Later wr, x.to.cell? ⟨b1, o1 + k * 3 + 1, none⟩ = some (.float .f32 ch) := fun x => x.cell c2
      have c3 : ∀ x : Later wr, x.to.cell? ⟨b1, o1 + k * 3 + 2, none⟩ = some (.float .f32 tw) := fun x => x.cell c3
      have d1 : ∀ x : Later wr, x.to.cell? ⟨b2, o2 + k * 3, none⟩ = some (.float .f32 ra) := fun x => x.cell d1
      have d2 : ∀ x : Later wr, x.to.cell? ⟨b2, o2 + k * 3 + 1, none⟩ = some (.float .f32 ch) := fun x => x.cell d2
      have d3 : ∀ x : Later wr, x.to.cell? ⟨b2, o2 + k * 3 + 2, none⟩ = some (.float .f32 tw) := fun x => x.cell d3
      go_wp2_with fail
      ((refine wp_region_rl_lit (fun _ _ u => u = .bool true) (by kernel_rfl) (by kernel_rfl) ?_); (iterate 8 (refine wpRl_det' (by kernel_rfl) (fun K hK => ?_); go_simp; refine hK _ ?_; clear hK K)); (refine wpRl_call2 (f := 115) (X := sta ⟨ra, ch, tw⟩) (Y := sta ⟨ra, ch, tw⟩) rfl (by kernel_rfl) rfl rfl (run_enter Try.func115 (by kernel_rfl) rfl) (fun x => (l_eqStation ⟨ra, ch, tw⟩ _).mono (fun e w' ⟨he, hn⟩ => ⟨_, he, rfl, hn⟩)) ?_; intro v hv; subst hv); (refine wpRl_det' (by kernel_rfl) (fun K hK => ?_); go_simp; refine hK _ ?_; clear hK K); (refine wpRq_nil ?_); intro w' hb)
      go_wp2
      go_roundw
      case rel => exact ⟨k + 1, by omega, by go_num, below_step (Nat.le_refl _) Hb0.out hb⟩
      case measure => simp [RowKit.intOf]; omega
    · go_wp2
      go_ret
      exact ⟨rfl, hb0⟩
end Go.Proofs.Ytglfjanclopipaa
