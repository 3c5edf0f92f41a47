/- Walks: cycles are counted. -/
import Derived.Test.YtmpmnhnobgidoaaS
import Derived.Test.YtmpmnhnobgidoaaZ
import Derived.Test.YtmpmnhnobgidoaaCI
import Derived.Test.YtmpmnhnobgidoaaCM
namespace Go.Proofs.Ytmpmnhnobgidoaa
set_option linter.unusedSimpArgs false
set_option linter.unusedVariables false
open Go.RowKit Go.Fl

def qOf (c : Cyc) (w : Nat) : Nat := fa .quo .f32 (rng c) w
theorem nonneg_q {c : Cyc} {w : Nat} (h1 : fin .f32 c.lo = true) (h2 : fin .f32 c.hi = true) (h3 : flt .f32 c.hi c.lo = false) (hw : above w = true) : nonneg (qOf c w) := by
  unfold above at hw
  rw [Bool.and_eq_true] at hw
  exact nonneg_quo (nonneg_sub h2 h1 h3) hw.1 hw.2
theorem areCyc_at {cs : List Cyc} (h : areCyc cs = true) {k : Nat} (hk : k < cs.length) : fin .f32 cs[k].lo = true ∧ fin .f32 cs[k].hi = true ∧ flt .f32 cs[k].hi cs[k].lo = false := by
  unfold areCyc at h
  rw [Bool.and_eq_true, Bool.not_eq_true', List.any_eq_false] at h
  have := h.1 cs[k] (List.getElem_mem hk)
  cases h1 : fin .f32 cs[k].lo <;> cases h2 : fin .f32 cs[k].hi <;> cases h3 : flt .f32 cs[k].hi cs[k].lo <;> simp_all
theorem areCyc_len {cs : List Cyc} (h : areCyc cs = true) : cs.length ≤ 64 := by
  unfold areCyc at h
  rw [Bool.and_eq_true] at h
  exact of_decide_eq_true h.2
/-- One cycle more. -/
def bump (zs : List Int) (c : Cyc) (w b : Nat) : List Int :=
  if binIn (qOf c w) b then (if c.wh then zs.set (binOf (qOf c w)) (zs.getD (binOf (qOf c w)) 0 + 1 + 1) else zs.set (binOf (qOf c w)) (zs.getD (binOf (qOf c w)) 0 + 1)) else zs
def cnt (cs : List Cyc) (w b : Nat) : Nat → List Int
  | 0 => List.replicate b 0
  | k + 1 => bump (cnt cs w b k) (cs.getD k zeroCyc) w b
theorem bump_length (zs : List Int) (c : Cyc) (w b : Nat) : (bump zs c w b).length = zs.length := by
  unfold bump
  split
  · split <;> simp
  · rfl
theorem cnt_length (cs : List Cyc) (w b k : Nat) : (cnt cs w b k).length = b := by
  induction k with
  | zero => simp [cnt]
  | succ k ih => unfold cnt; rw [bump_length, ih]
theorem bump_le {zs : List Int} {c : Cyc} {w b : Nat} {m : Int} (h : ∀ z ∈ zs, 0 ≤ z ∧ z ≤ m) (hm : 0 ≤ m) : ∀ z ∈ bump zs c w b, 0 ≤ z ∧ z ≤ m + 2 := by
  have hg : 0 ≤ zs.getD (binOf (qOf c w)) 0 ∧ zs.getD (binOf (qOf c w)) 0 ≤ m := by
    rw [List.getD_eq_getElem?_getD]
    cases he : zs[binOf (qOf c w)]? with
    | none => simp; omega
    | some y => exact h y (List.mem_of_getElem? he)
  intro z hz
  unfold bump at hz
  split at hz
  · split at hz
    all_goals
      rcases List.mem_or_eq_of_mem_set hz with hz | rfl
      · have := h z hz; omega
      · omega
  · have := h z hz; omega
theorem cnt_le (cs : List Cyc) (w b k : Nat) : ∀ z ∈ cnt cs w b k, 0 ≤ z ∧ z ≤ 2 * (k : Int) := by
  induction k with
  | zero => intro z hz; have := List.eq_of_mem_replicate hz; omega
  | succ k ih =>
    intro z hz
    have := bump_le ih (by omega) z hz
    omega
theorem cnt_succ (cs : List Cyc) (w b k : Nat) (hk : k < cs.length) : cnt cs w b (k + 1) = bump (cnt cs w b k) cs[k] w b := by simp [cnt, hk]
theorem bin_lt {x b : Nat} (h : binIn x b = true) : binOf x < b := by
  unfold binIn at h
  unfold binOf
  split at h
  · simpa using h
  · cases h
def cntGood (cs : List Cyc) (w : Nat) (p : Int) : Bool := areCyc cs && above w && inside p 1 32
/-- What a function gives that has a list of whole numbers and whether it succeeds. -/
def IntsOut (good : Bool) (ys : List Int) (w : World) (e : Ending) (w' : World) : Prop :=
  ∃ u, e = .returned (.tuple #[u, .bool good]) ∧ OI w.heap.size w' u (if good then ys else []) ∧ Below w.heap.size w w'
theorem IntsOut.no {good : Bool} {ys : List Int} {w w' : World} (hg : good = false) (hb : Below w.heap.size w w') : IntsOut good ys w (.returned (.tuple #[.slice none 0 0, .bool false])) w' := by
  subst hg
  exact ⟨_, rfl, OI_nil _ _, hb⟩
theorem IntsOut.ok {good : Bool} {ys : List Int} {u : Value} {w w' : World} (hg : good = true) (ho : OI w.heap.size w' u ys) (hb : Below w.heap.size w w') : IntsOut good ys w (.returned (.tuple #[u, .bool true])) w' := by
  subst hg
  exact ⟨u, rfl, ho, hb⟩
theorem is_of_cn {k : FloatKind} {r q : Nat} (h : cn k r = q) (hq : isNan k q = false) : r = q := by
  have h2 : isNan k r = false := by rw [← isNan_cn, h]; exact hq
  rw [cn_of_not h2] at h
  exact h
theorem made_ints (n : Nat) : (madeCells #[Value.int .i64 0] n).toList = (List.replicate n (0 : Int)).map (Value.int .i64) := by
  rw [toList_madeCells_one]; simp
theorem set_map (zs : List Int) (n : Nat) (z : Int) : ((zs.map (Value.int .i64)).set n (.int .i64 z)) = (zs.set n z).map (Value.int .i64) := by rw [List.map_set]
theorem setCell_keeps {w : World} {g n : Nat} {v : Value} {b o : Nat} {x : Value} {B : Nat} (hB : B ≤ g) (hb : b < B) (h : w.cell? ⟨b, o, none⟩ = some x) : (w.setCell ⟨g, n, none⟩ v).cell? ⟨b, o, none⟩ = some x :=
  ((((Below.refl B w).setCell (p := ⟨g, n, none⟩) hB v).cell (p := ⟨b, o, none⟩) hb)).trans h
theorem conv32 (q : Nat) (n : Int) (h : floatToIntVal .f32 q .i64 = some n) (w : World) : (convert 26 2 (.float .f32 q)).run Try.prog w = .ok (.int .i64 n) w :=
  run_convert_float_int (P := Try.prog) w 26 2 .f32 .i64 q n (by kernel_rfl) Try.underlying2 h
theorem conv64 (q : Nat) (n : Int) (h : floatToIntVal .f64 q .i64 = some n) (w : World) : (convert 37 2 (.float .f64 q)).run Try.prog w = .ok (.int .i64 n) w :=
  run_convert_float_int (P := Try.prog) w 37 2 .f64 .i64 q n (by kernel_rfl) Try.underlying2 h
theorem widen_q {r lo hi w : Nat} {wh : Bool} (hr : Hid (cn .f64 r = widen (fa .quo .f32 (rng ⟨lo, hi, wh⟩) (cn .f32 w)))) : Hid (cn .f64 r = widen (qOf ⟨lo, hi, wh⟩ w)) := by
  unfold qOf
  rw [← fa_cn_right]
  exact hr
theorem widen_not_nan {q : Nat} (h : isNan .f32 q = false) : isNan .f64 (widen q) = false := widen_notNaN h
theorem run_floor (x : Nat) (h : isNan .f64 x = false) (w : World) : (callFunc 92 #[.float .f64 x]).run Try.prog w = .ok (.value (.float .f64 (flo x))) w := by
  rw [run_callFunc_extern (e := Extern.MathFloor.toIntegral "math.archFloor" .down) Try.func92 (by kernel_rfl) (by kernel_rfl) (by kernel_rfl) (by kernel_rfl)]
  have e : Extern.MathFloor.toIntegral "math.archFloor" .down #[.float .f64 x] = (match FloatKind.f64.decode x with
    | .nan s t =>
      if FloatKind.f64.format.quiet t = t then pure (.float .f64 x) else do
      let kept ← choose (.extern "math.Floor,Ceil,Trunc,RoundToEven.signallingNaN kept" 2)
      pure (.float .f64 (if kept == 1 then x else FloatKind.f64.encode (.nan s (FloatKind.f64.format.quiet t))))
    | d => pure (.float .f64 (FloatKind.f64.encode (d.integral .down)))) := rfl
  rw [e]
  have h' : (FloatKind.f64.decode x).isNaN = false := h
  unfold flo
  cases hd : FloatKind.f64.decode x with
  | nan s t => rw [hd] at h'; cases h'
  | number s m e => rfl
  | infinity s => rfl
theorem f_Floor (x q : Nat) (h : Hid (cn .f64 x = widen q)) (hn : isNan .f32 q = false) (w : World) : Calls Try.prog 66 #[.float .f64 x] w fun e w' => e = .returned (.float .f64 (flo (widen q))) ∧ ∃ n, w' = w.drewN n := by
  have hx : x = widen q := is_of_cn h.out (widen_not_nan hn)
  have hf := run_floor x (by rw [hx]; exact widen_not_nan hn)
  rw [← hx]
  clear hx h hn
  go_enter Try.func66, Try.ntmps66
  go_wp2
  go_ret
  exact ⟨rfl, 0, rfl⟩
set_option maxHeartbeats 4000000 in
theorem i_CountCycles (v : Value) (cs : List Cyc) (wd : Nat) (p : Int) (w : World) (hx : RC w v cs) : Calls Try.prog 25 #[v, .float .f32 wd, .int .i64 p] w (IntsOut (cntGood cs wd p) (cnt cs wd p.toNat cs.length) w) := by
  obtain ⟨p1, cap1, rfl, hm1, hc1⟩ := id hx
  have HX := Lib.hid hx
  have HC1 := Lib.hid hc1
  clear hx hc1
  have h1 : aboveAll [wd] = above wd := by simp [aboveAll]
  have H1 := Lib.hid h1
  clear h1
  cases ha : areCyc cs
  · have HA := Lib.hid ha
    clear ha
    go_enter Try.func25, Try.ntmps25
    go_wp2_with (go_at_call 23; refine (i_AreCycles _ cs _ HX.out).mono ?_; rintro e w' ⟨rfl, hb⟩; rw [HA.out])
    go_ret2
    exact IntsOut.no (by unfold cntGood; rw [HA.out]; rfl) (by repeat (first | exact Below.refl _ _ | assumption | refine below_drewN ?_ _ | refine below_alloc (Nat.le_refl _) ?_ _ | (refine Below.setCell ?_ (by first | exact Nat.le_refl _ | (simp; done) | (simp; omega) | omega) _) | (refine below_step (Nat.le_refl _) ?_ (by assumption))))
  cases hs : above wd
  · have HA := Lib.hid ha
    have HS := Lib.hid hs
    clear ha hs
    go_enter Try.func25, Try.ntmps25
    go_wp2_with (first | (go_at_call 23; refine (i_AreCycles _ cs _ HX.out).mono ?_; rintro e w' ⟨rfl, hb⟩; rw [HA.out]) | (go_at_call 57; refine (i_arePositive _ [wd] _ (RF_top1 _ _ (by simp) _ _)).mono ?_; rintro e w' ⟨rfl, n, rfl⟩; rw [H1.out, HS.out]))
    go_ret2
    exact IntsOut.no (by unfold cntGood; rw [HA.out, HS.out]; rfl) (by repeat (first | exact Below.refl _ _ | assumption | refine below_drewN ?_ _ | refine below_alloc (Nat.le_refl _) ?_ _ | (refine Below.setCell ?_ (by first | exact Nat.le_refl _ | (simp; done) | (simp; omega) | omega) _) | (refine below_step (Nat.le_refl _) ?_ (by assumption))))
  cases hi : inside p 1 32
  · have HA := Lib.hid ha
    have HS := Lib.hid hs
    have HI := Lib.hid hi
    clear ha hs hi
    go_enter Try.func25, Try.ntmps25
    go_wp2_with (first | (go_at_call 23; refine (i_AreCycles _ cs _ HX.out).mono ?_; rintro e w' ⟨rfl, hb⟩; rw [HA.out]) | (go_at_call 57; refine (i_arePositive _ [wd] _ (RF_top1 _ _ (by simp) _ _)).mono ?_; rintro e w' ⟨rfl, n, rfl⟩; rw [H1.out, HS.out]) | (go_at_call 58; refine (i_within _ _ _ _).mono ?_; rintro e w' ⟨rfl, n, rfl⟩; rw [HI.out]))
    go_ret2
    exact IntsOut.no (by unfold cntGood; rw [HA.out, HS.out, HI.out]; rfl) (by repeat (first | exact Below.refl _ _ | assumption | refine below_drewN ?_ _ | refine below_alloc (Nat.le_refl _) ?_ _ | (refine Below.setCell ?_ (by first | exact Nat.le_refl _ | (simp; done) | (simp; omega) | omega) _) | (refine below_step (Nat.le_refl _) ?_ (by assumption))))
  obtain ⟨hp1, hp12⟩ : 1 ≤ p ∧ p ≤ 32 := by simpa [inside] using hi
  obtain ⟨m, rfl⟩ : ∃ m : Nat, p = (m : Int) := ⟨p.toNat, by omega⟩
  have HG : Hid (cntGood cs wd m = true) := by show _ = _; unfold cntGood; rw [ha, hs, hi]; rfl
  have hlen := areCyc_len ha
  have HA := Lib.hid ha
  have HS := Lib.hid hs
  have HI := Lib.hid hi
  clear ha hs hi
  have hmk := run_make_row' (P := Try.prog) 32 2 (.int .i64 0) 8 Try.underlying32 (by kernel_rfl) rfl .i64 .i64 m (by omega) (by omega)
  have hst : ∀ W : World, Below w.heap.size w W → (W.alloc (.cells (madeCells #[Value.int .i64 0] m) 2)).ownsRow w.heap.size 2 1 (.slice (some ⟨W.heap.size, 0, none⟩) m m) m ((cnt cs wd m 0).map (Value.int .i64)) := fun W hW => by
    have := World.ownsRow_lit (base := w.heap.size) (e := 2) (size := 1) W (madeCells #[Value.int .i64 0] m) m hW.size (by unfold maxLen; omega) (by rw [size_madeCells, Nat.mul_one])
    rw [made_ints] at this
    exact this
  have HST := Lib.hid hst
  clear hst
  go_enter Try.func25, Try.ntmps25
  go_wp2_with (first | (go_at_call 23; refine (i_AreCycles _ cs _ HX.out).mono ?_; rintro e w' ⟨rfl, hb⟩; rw [HA.out]) | (go_at_call 57; refine (i_arePositive _ [wd] _ (RF_top1 _ _ (by simp) _ _)).mono ?_; rintro e w' ⟨rfl, n, rfl⟩; rw [H1.out, HS.out]) | (go_at_call 58; refine (i_within _ _ _ _).mono ?_; rintro e w' ⟨rfl, n, rfl⟩; rw [HI.out]))
  clear hmk
  refine wp_world fun W0 HW => ?_
  have hown0 : Hid (W0.ownsRow w.heap.size 2 1 (.slice (some ⟨w'.heap.size + 1, 0, none⟩) m m) m ((cnt cs wd m 0).map (Value.int .i64))) := by
    have hW1 : ∀ k, Below w.heap.size w ((w'.alloc (.cells #[Value.float .f32 wd] 26)).drewN k) := fun k => (by repeat (first | exact Below.refl _ _ | assumption | refine below_drewN ?_ _ | refine below_alloc (Nat.le_refl _) ?_ _ | (refine Below.setCell ?_ (by first | exact Nat.le_refl _ | (simp; done) | (simp; omega) | omega) _) | (refine below_step (Nat.le_refl _) ?_ (by assumption))))
    have := fun k => HST.out _ (hW1 k)
    show World.ownsRow _ _ _ _ _ _ _
    rw [HW.out]
    simpa using this _
  have hb0 : Hid (Below w.heap.size w W0) := by show Below _ _ _; rw [HW.out]; exact (by repeat (first | exact Below.refl _ _ | assumption | refine below_drewN ?_ _ | refine below_alloc (Nat.le_refl _) ?_ _ | (refine Below.setCell ?_ (by first | exact Nat.le_refl _ | (simp; done) | (simp; omega) | omega) _) | (refine below_step (Nat.le_refl _) ?_ (by assumption))))
  have hg0 : w.heap.size ≤ w'.heap.size + 1 := by have := hb.size; omega
  obtain ⟨g, hg⟩ : ∃ g, g = w'.heap.size + 1 := ⟨_, rfl⟩
  rw [← hg] at hown0 hg0 ⊢
  have HHG := Lib.hid hg
  clear hg hb HW
  go_loopw [30] (fun i wr => ∃ k : Nat, k ≤ cs.length ∧ i = .int .i64 k ∧ wr.ownsRow w.heap.size 2 1 (.slice (some ⟨g, 0, none⟩) m m) m ((cnt cs wd m k).map (Value.int .i64)) ∧ Below w.heap.size w wr) (fun i _ => cs.length - (intOf i).toNat)
  case atStart => exact ⟨0, Nat.zero_le _, rfl, hown0.out, hb0.out⟩
  case round =>
    obtain ⟨k, hk, rfl, hown, hb⟩ := hrel
    have HO := Lib.hid hown
    have HB := Lib.hid hb
    clear hown hb
    by_cases hlt : k < cs.length
    · obtain ⟨b1, o1, rfl, hcell1⟩ := HC1.out.resolve_left (by omega)
      obtain ⟨g1, g2, g3⟩ := CycAt_of hcell1 k hlt
      have hB1 : b1 < w.heap.size := block_lt_of_cell g1
      have g1 := (HB.out.cell (p := ⟨b1, o1 + k * 3, none⟩) hB1).trans g1
      have g2 := (HB.out.cell (p := ⟨b1, o1 + k * 3 + 1, none⟩) hB1).trans g2
      have g3 := (HB.out.cell (p := ⟨b1, o1 + k * 3 + 2, none⟩) hB1).trans g3
      have HT := Lib.hid (cnt_succ cs wd m k hlt)
      obtain ⟨z1, z2, z3⟩ := areCyc_at HA.out hlt
      have HN := Lib.hid (nonneg_q z1 z2 z3 HS.out)
      clear hcell1 z1 z2 z3
      generalize cs[k] = c at g1 g2 g3 HT HN
      obtain ⟨lo, hi, wh⟩ := c
      simp only at g1 g2 g3
      go_wp2_with fail
      refine (i_rangeOf ⟨lo, hi, wh⟩ _).mono ?_
      rintro e w1 ⟨⟨r, rfl, hr⟩, hb⟩
      have hgw : g < wr.heap.size := (HO.out.lt g rfl).2
      have HB1 : Hid (Below w.heap.size w w1) := below_step (Nat.le_refl _) HB.out (by repeat (first | exact Below.refl _ _ | assumption | refine below_drewN ?_ _ | refine below_alloc (Nat.le_refl _) ?_ _ | (refine Below.setCell ?_ (by first | exact Nat.le_refl _ | (simp; done) | (simp; omega) | omega) _) | (refine below_step (Nat.le_refl _) ?_ (by assumption))))
      have HO1 : Hid (w1.ownsRow w.heap.size 2 1 (.slice (some ⟨g, 0, none⟩) m m) m ((cnt cs wd m k).map (Value.int .i64))) := ownsRow_below HO.out (by exact (Below.refl _ _ |>.alloc (Nat.le_refl _) _).trans (hb.mono (by simp)))
      have hr0 := Lib.hid hr
      obtain ⟨t1, t2, t3⟩ := CycAt.below (cyc_top wr _ rfl lo hi wh _) hb
      clear hb hr g1 g2 g3 HO
      have hqn := nonneg_notNan HN.out
      have HQN := Lib.hid hqn
      clear hqn
      have hlb := lt_flo HN.out (b := m) (by omega)
      cases hin : binIn (qOf ⟨lo, hi, wh⟩ wd) m
      · rw [hin] at hlb
        have hlb' : (FloatKind.f64.format.order (flo (widen (qOf ⟨lo, hi, wh⟩ wd))) (floatOfInt .f64 (m : Int)) == some .lt) = false := hlb
        have HIN := Lib.hid hin
        clear hin hlb
        go_wp2_with (first | (refine wpList_fa rfl rfl rfl rfl rfl (by first | assumption | exact hrfl _) (by first | assumption | exact hrfl _) ?_; intro r n hr) | (refine wpList_widen (dst := 37) rfl rfl rfl (by kernel_rfl) (by exact Try.underlying37) (by first | assumption | exact hrfl _) ?_; intro r n hr))
        refine (f_Floor _ (qOf ⟨lo, hi, wh⟩ wd) (widen_q hr) HQN.out _).mono ?_
        rintro e w' ⟨rfl, n', rfl⟩
        go_wp2
        go_roundw
        case rel => exact ⟨k + 1, by omega, by go_num, by rw [HT.out]; unfold bump; rw [HIN.out]; exact HO1.out, below_drewN HB1.out _⟩
        case measure => simp [intOf]; omega
      · rw [hin] at hlb
        have hlb' : (FloatKind.f64.format.order (flo (widen (qOf ⟨lo, hi, wh⟩ wd))) (floatOfInt .f64 (m : Int)) == some .lt) = true := hlb
        have hbl : binOf (qOf ⟨lo, hi, wh⟩ wd) < m := bin_lt hin
        have hcv := conv64 _ _ (toInt_flo HN.out (by omega) hin)
        have HIN := Lib.hid hin
        clear hin hlb
        have HBN : Hid (bump (cnt cs wd m k) ⟨lo, hi, wh⟩ wd m = if wh then (cnt cs wd m k).set (binOf (qOf ⟨lo, hi, wh⟩ wd)) ((cnt cs wd m k).getD (binOf (qOf ⟨lo, hi, wh⟩ wd)) 0 + 1 + 1) else (cnt cs wd m k).set (binOf (qOf ⟨lo, hi, wh⟩ wd)) ((cnt cs wd m k).getD (binOf (qOf ⟨lo, hi, wh⟩ wd)) 0 + 1)) := by
          show _ = _
          unfold bump
          rw [HIN.out, if_pos rfl]
        generalize binOf (qOf ⟨lo, hi, wh⟩ wd) = n at *
        have hzl := cnt_length cs wd m k
        have hzm := cnt_le cs wd m k
        have HZL := Lib.hid hzl
        generalize cnt cs wd m k = zs at *
        have hz : zs.getD n 0 = zs[n]'(by rw [hzl]; exact hbl) := by simp [hzl, hbl]
        obtain ⟨hz0, hz1⟩ := hzm _ (List.getElem_mem (by rw [hzl]; exact hbl : n < zs.length))
        have hcz : w1.cell? ⟨g, n, none⟩ = some (.int .i64 (zs[n]'(by rw [hzl]; exact hbl))) := by rw [HO1.out.cellAt n (by omega)]; simp [hzl, hbl]
        have hfz : w1.frozen? ⟨g, n, none⟩ = false := HO1.out.frozenAt n
        rw [hz] at HBN
        generalize zs[n]'(by rw [hzl]; exact hbl) = z at *
        have q3 : ∀ v : Value, (w1.setCell ⟨g, n, none⟩ v).cell? ⟨wr.heap.size, 2, none⟩ = some (.bool wh) := fun v => (World.cell?_setCell_other w1 ⟨g, n, none⟩ ⟨wr.heap.size, 2, none⟩ v (by intro h; cases h; omega)).trans t3
        have s1 := (HO1.out.stored n (.int .i64 (z + 1))).1
        have s2 := (s1.stored n (.int .i64 (z + 1 + 1))).1
        rw [set_map] at s1 s2
        rw [set_map, List.set_set] at s2
        have S1 := Lib.hid s1
        have S2 := Lib.hid s2
        clear s1 s2 hzm hz hzl
        cases wh
        all_goals
          go_wp2_with (first | (refine wpList_fa rfl rfl rfl rfl rfl (by first | assumption | exact hrfl _) (by first | assumption | exact hrfl _) ?_; intro r n hr) | (refine wpList_widen (dst := 37) rfl rfl rfl (by kernel_rfl) (by exact Try.underlying37) (by first | assumption | exact hrfl _) ?_; intro r n hr))
          refine (f_Floor _ (qOf ⟨lo, hi, _⟩ wd) (widen_q hr) HQN.out _).mono ?_
          rintro e w' ⟨rfl, n', rfl⟩
          go_wp2
          go_roundw
          case rel => exact ⟨k + 1, by omega, by go_num, by rw [HT.out, HBN.out]; first | exact S1.out | exact S2.out, by first | exact (below_drewN HB1.out _).setCell hg0 _ | exact ((below_drewN HB1.out _).setCell hg0 _).setCell hg0 _⟩
          case measure => simp [intOf]; omega
    · obtain rfl : k = cs.length := by omega
      go_wp2
      go_ret2
      exact IntsOut.ok HG.out (by unfold OI; rw [show (cnt cs wd (m : Int).toNat cs.length).length = m from cnt_length _ _ _ _]; exact HO.out) HB.out
end Go.Proofs.Ytmpmnhnobgidoaa
