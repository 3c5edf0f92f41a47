/- Walks: lists of cycles. -/
import Derived.Test.YtmpmnhnobgidoaaD
namespace Go.Proofs.Ytmpmnhnobgidoaa
set_option linter.unusedSimpArgs false
set_option linter.unusedVariables false
open Go.RowKit Go.Fl

/-- A cycle: the bits of both numbers, and whether it is whole. -/
structure Cyc where
  lo : Nat
  hi : Nat
  wh : Bool
abbrev cyc (c : Cyc) : Value := .agg #[.float .f32 c.lo, .float .f32 c.hi, .bool c.wh]
def cycCells : List Cyc → List Value
  | [] => []
  | c :: cs => .float .f32 c.lo :: .float .f32 c.hi :: .bool c.wh :: cycCells cs
theorem cycCells_length (cs : List Cyc) : (cycCells cs).length = cs.length * 3 := by
  induction cs with
  | nil => rfl
  | cons c cs ih => simp [cycCells, ih]; omega
theorem cycCells_at (cs : List Cyc) (k : Nat) (h : k < cs.length) :
    (cycCells cs)[k * 3]? = some (.float .f32 cs[k].lo) ∧ (cycCells cs)[k * 3 + 1]? = some (.float .f32 cs[k].hi) ∧ (cycCells cs)[k * 3 + 2]? = some (.bool cs[k].wh) := by
  induction cs generalizing k with
  | nil => simp at h
  | cons c cs ih =>
    cases k with
    | zero => simp [cycCells]
    | succ k =>
      obtain ⟨h1, h2, h3⟩ := ih k (by simpa using h)
      have e : (k + 1) * 3 = k * 3 + 3 := by omega
      rw [e]
      refine ⟨?_, ?_, ?_⟩
      · simpa [cycCells] using h1
      · simpa [cycCells] using h2
      · simpa [cycCells] using h3
def RC (w : World) (v : Value) (cs : List Cyc) : Prop := Sl w v cs.length (cycCells cs)
theorem RC_below {w w' : World} {v : Value} {cs : List Cyc} (h : RC w v cs) (hb : Below w.heap.size w w') : RC w' v cs := Sl.below h (.inr trivial) hb (Nat.le_refl _)
/-- The cells of one cycle. -/
def CycAt (w : World) (b o : Nat) (c : Cyc) : Prop := w.cell? ⟨b, o, none⟩ = some (.float .f32 c.lo) ∧ w.cell? ⟨b, o + 1, none⟩ = some (.float .f32 c.hi) ∧ w.cell? ⟨b, o + 2, none⟩ = some (.bool c.wh)
theorem CycAt_of {w : World} {b off : Nat} {cs : List Cyc} (h : ∀ j u, (cycCells cs)[j]? = some u → w.cell? ⟨b, off + j, none⟩ = some u) (k : Nat) (hk : k < cs.length) : CycAt w b (off + k * 3) cs[k] := by
  obtain ⟨h1, h2, h3⟩ := cycCells_at cs k hk
  exact ⟨h _ _ h1, by rw [Nat.add_assoc]; exact h _ _ h2, by rw [Nat.add_assoc]; exact h _ _ h3⟩

def CEq1 (c d : Cyc) : Prop := cn .f32 c.lo = cn .f32 d.lo ∧ cn .f32 c.hi = cn .f32 d.hi ∧ c.wh = d.wh
/-- Two lists of cycles that differ in the bits of not-a-numbers at most. -/
def CEq (cs ds : List Cyc) : Prop := cs.length = ds.length ∧ ∀ k (h1 : k < cs.length) (h2 : k < ds.length), CEq1 cs[k] ds[k]
theorem CEq.refl (cs : List Cyc) : CEq cs cs := ⟨rfl, fun _ _ _ => ⟨rfl, rfl, rfl⟩⟩
theorem any_at {α : Type} {p : α → Bool} {xs : List α} {k : Nat} (hk : k < xs.length) (h : p xs[k] = true) : xs.any p = true := by rw [List.any_eq_true]; exact ⟨_, List.getElem_mem hk, h⟩
theorem any_none {α : Type} {p : α → Bool} {xs : List α} (h : noneYet p xs xs.length) : xs.any p = false := by
  rw [List.any_eq_false]
  intro x hx
  obtain ⟨j, hj, rfl⟩ := List.getElem_of_mem hx
  rw [h j hj hj]; decide
theorem i_AreCycles_1 (c : Cyc) (w : World) : Calls Try.prog 65 #[cyc c] w fun e w' => e = .returned (.bool (!fin .f32 c.lo || !fin .f32 c.hi || flt .f32 c.hi c.lo)) ∧ Below w.heap.size w w' := by
  obtain ⟨lo, hi, wh⟩ := c
  go_enter Try.func65, Try.ntmps65
  go_wp2_with (go_at_call 52; refine (i_areFinite _ [lo, hi] _ (RF_top2 _ _ (by simp) _ _ _)).mono ?_; rintro e w' ⟨rfl, n, rfl⟩)
  all_goals
    go_tidy
    go_ret
    exact ⟨(by cases hb0 : fin .f32 lo <;> cases hb1 : fin .f32 hi <;> simp_all [finAll, flt]), (by repeat (first | exact Below.refl _ _ | assumption | refine below_drewN ?_ _ | refine below_alloc (Nat.le_refl _) ?_ _ | (refine Below.setCell ?_ (by first | exact Nat.le_refl _ | (simp; done) | (simp; omega) | omega) _) | (refine below_step (Nat.le_refl _) ?_ (by assumption))))⟩
set_option maxHeartbeats 400000 in
theorem f_IndexFunc_Cycle (g : Nat) (p : Cyc → Bool) (hg : ∀ args W, (callFunc g args).run Try.prog W = .ok (.enter g args) W) (H : ∀ c W, Calls Try.prog g #[cyc c] W fun e w' => e = .returned (.bool (p c)) ∧ Below W.heap.size W w') (v : Value) (cs : List Cyc) (w : World) (hv : RC w v cs) :
    Calls Try.prog 91 #[v, .func (.func g) #[] #[]] w fun e w' => e = .returned (.int .i64 (idxOf (cs.findIdx? p))) ∧ Below w.heap.size w w' := by
  obtain ⟨pp, cap, rfl, hm, hc⟩ := hv
  have HH := Lib.hid H
  clear H
  go_enter Try.func91, Try.ntmps91
  go_wp2_with fail
  go_loopw [8] (fun i wr => ∃ k : Nat, k ≤ cs.length ∧ i = .int .i64 k ∧ Below w.heap.size w wr ∧ noneYet p cs k) (fun i _ => cs.length - (intOf i).toNat)
  case atStart => exact ⟨0, Nat.zero_le _, rfl, Below.refl _ _, noneYet_zero _ _⟩
  case round =>
    obtain ⟨k, hk, rfl, hb, hn⟩ := hrel
    by_cases hlt : k < cs.length
    · obtain ⟨b, off, rfl, hcell⟩ := hc.resolve_left (by omega)
      obtain ⟨h1, h2, h3⟩ := CycAt_of hcell k hlt
      have g1 := (hb.cell (p := ⟨b, off + k * 3, none⟩) (block_lt_of_cell h1)).trans h1
      have g2 := (hb.cell (p := ⟨b, off + k * 3 + 1, none⟩) (block_lt_of_cell h2)).trans h2
      have g3 := (hb.cell (p := ⟨b, off + k * 3 + 2, none⟩) (block_lt_of_cell h3)).trans h3
      have hp' : p cs[k] = true ∨ p cs[k] = false := by cases p cs[k] <;> simp
      generalize hcc : cs[k] = c at h1 h2 h3 g1 g2 g3 hp'
      have HC := Lib.hid hcc
      clear hcell hc h1 h2 h3 hcc
      obtain ⟨lo, hi, wh⟩ := c
      simp only at g1 g2 g3
      have Hb := Lib.hid hb
      clear hb
      rcases hp' with hp | hp
      all_goals
        have HP := Lib.hid hp
        clear hp
        go_wp2_with (refine (HH.out ⟨lo, hi, wh⟩ _).mono ?_; rintro e w' ⟨rfl, hb1⟩; rw [HP.out])
      · go_ret
        exact ⟨by rw [idxOf_found hn hlt (by rw [HC.out]; exact HP.out)]; rfl, below_step (Nat.le_refl _) Hb.out hb1⟩
      · go_roundw
        case rel => exact ⟨k + 1, by omega, by go_num, below_step (Nat.le_refl _) Hb.out hb1, noneYet_succ hn hlt (by rw [HC.out]; exact HP.out)⟩
        case measure => simp [intOf]; omega
    · go_wp2
      go_ret
      exact ⟨by rw [idxOf_none hn (by omega)]; rfl, hb⟩
theorem f_ContainsFunc_Cycle (g : Nat) (p : Cyc → Bool) (hg : ∀ args W, (callFunc g args).run Try.prog W = .ok (.enter g args) W) (H : ∀ c W, Calls Try.prog g #[cyc c] W fun e w' => e = .returned (.bool (p c)) ∧ Below W.heap.size W w') (v : Value) (cs : List Cyc) (w : World) (hv : RC w v cs) :
    Calls Try.prog 64 #[v, .func (.func g) #[] #[]] w fun e w' => e = .returned (.bool (cs.any p)) ∧ Below w.heap.size w w' := by
  have hb := idxOf_ge p cs
  have Hg := Lib.hid hg
  have HH := Lib.hid H
  clear H hg
  go_enter Try.func64, Try.ntmps64
  go_wp2_with (go_at_call 91; refine (f_IndexFunc_Cycle g p Hg.out HH.out v cs _ hv).mono ?_; rintro e w' ⟨rfl, hb1⟩)
  go_ret
  exact ⟨by first | rfl | simp [← hb], (by repeat (first | exact Below.refl _ _ | assumption | refine below_drewN ?_ _ | refine below_alloc (Nat.le_refl _) ?_ _ | (refine Below.setCell ?_ (by first | exact Nat.le_refl _ | (simp; done) | (simp; omega) | omega) _) | (refine below_step (Nat.le_refl _) ?_ (by assumption))))⟩
def cycOk (c : Cyc) : Bool := !(!fin .f32 c.lo || !fin .f32 c.hi || flt .f32 c.hi c.lo)
def areCyc (cs : List Cyc) : Bool := !cs.any (fun c => !fin .f32 c.lo || !fin .f32 c.hi || flt .f32 c.hi c.lo) && decide (cs.length ≤ 64)
theorem i_AreCycles (v : Value) (cs : List Cyc) (w : World) (hx : RC w v cs) : Calls Try.prog 23 #[v] w fun e w' => e = .returned (.bool (areCyc cs)) ∧ Below w.heap.size w w' := by
  have hx' := hx
  obtain ⟨p1, cap1, rfl, hm1, hc1⟩ := hx'
  have HX := Lib.hid hx
  clear hx hc1
  by_cases hl : cs.length ≤ 64
  · go_enter Try.func23, Try.ntmps23
    go_wp2_with (go_at_call 64; refine (f_ContainsFunc_Cycle _ (fun c => !fin .f32 c.lo || !fin .f32 c.hi || flt .f32 c.hi c.lo) (run_enter Try.func65 (by kernel_rfl) rfl) i_AreCycles_1 _ cs _ HX.out).mono ?_; rintro e w' ⟨rfl, hb⟩)
    go_ret
    exact ⟨by unfold areCyc; simp [hl], (by repeat (first | exact Below.refl _ _ | assumption | refine below_drewN ?_ _ | refine below_alloc (Nat.le_refl _) ?_ _ | (refine Below.setCell ?_ (by first | exact Nat.le_refl _ | (simp; done) | (simp; omega) | omega) _) | (refine below_step (Nat.le_refl _) ?_ (by assumption))))⟩
  · go_enter Try.func23, Try.ntmps23
    go_wp2
    go_ret
    exact ⟨by unfold areCyc; simp [hl], (by repeat (first | exact Below.refl _ _ | assumption | refine below_drewN ?_ _ | refine below_alloc (Nat.le_refl _) ?_ _ | (refine Below.setCell ?_ (by first | exact Nat.le_refl _ | (simp; done) | (simp; omega) | omega) _) | (refine below_step (Nat.le_refl _) ?_ (by assumption))))⟩
def zeroCyc : Cyc := ⟨0, 0, false⟩
def partC (cs : List Cyc) (k : Nat) : List Cyc := cs.take k ++ List.replicate (cs.length - k) zeroCyc
theorem partC_length (cs : List Cyc) (k : Nat) (hk : k ≤ cs.length) : (partC cs k).length = cs.length := by simp [partC]; omega
def OC (B : Nat) (w : World) (v : Value) (cs : List Cyc) : Prop := w.ownsRow B 47 3 v cs.length (cycCells cs)
theorem OC_below {B : Nat} {w w' : World} {v : Value} {cs : List Cyc} (h : OC B w v cs) (hb : Below w.heap.size w w') : OC B w' v cs := ownsRow_below h hb
theorem RC_of_own {B : Nat} {w : World} {v : Value} {cs : List Cyc} (h : OC B w v cs) (hn : cs.length ≤ 281474976710656) : RC w v cs := Sl_of_own h hn
theorem list3_ext {a b : List Value} {n : Nat} (ha : a.length = n * 3) (hb : b.length = n * 3) (h : ∀ k, k < n → a[k * 3]? = b[k * 3]? ∧ a[k * 3 + 1]? = b[k * 3 + 1]? ∧ a[k * 3 + 2]? = b[k * 3 + 2]?) : a = b := by
  apply List.ext_getElem?
  intro j
  by_cases hj : j < n * 3
  · obtain ⟨h0, h1, h2⟩ := h (j / 3) (by omega)
    rcases (show j = j / 3 * 3 ∨ j = j / 3 * 3 + 1 ∨ j = j / 3 * 3 + 2 by omega) with e | e | e
    · rw [← e] at h0; exact h0
    · rw [← e] at h1; exact h1
    · rw [← e] at h2; exact h2
  · rw [List.getElem?_eq_none (by omega), List.getElem?_eq_none (by omega)]
theorem made_cyc (n : Nat) : (madeCells #[Value.float .f32 0, .float .f32 0, .bool false] (n * 3)).toList = cycCells (List.replicate n zeroCyc) := by
  refine list3_ext (n := n) (by simp [size_madeCells]) (by simp [cycCells_length]) fun k hk => ?_
  obtain ⟨h0, h1, h2⟩ := cycCells_at (List.replicate n zeroCyc) k (by simpa using hk)
  rw [h0, h1, h2]
  have e0 : k * 3 % 3 = 0 := by omega
  have e1 : (k * 3 + 1) % 3 = 1 := by omega
  have e2 : (k * 3 + 2) % 3 = 2 := by omega
  refine ⟨?_, ?_, ?_⟩
  · simp [madeCells, show k * 3 < n * 3 by omega, zeroCyc]
  · simp [madeCells, show k * 3 + 1 < n * 3 by omega, e1, zeroCyc]
  · simp [madeCells, show k * 3 + 2 < n * 3 by omega, e2, zeroCyc]
theorem cycCells_set (cs : List Cyc) (k : Nat) (c : Cyc) (hk : k < cs.length) : (((cycCells cs).set (k * 3) (.float .f32 c.lo)).set (k * 3 + 1) (.float .f32 c.hi)).set (k * 3 + 2) (.bool c.wh) = cycCells (cs.set k c) := by
  refine list3_ext (n := cs.length) (by simp [cycCells_length]) (by simp [cycCells_length]) fun j hj => ?_
  obtain ⟨h0, h1, h2⟩ := cycCells_at (cs.set k c) j (by simpa using hj)
  obtain ⟨g0, g1, g2⟩ := cycCells_at cs j hj
  have hl := cycCells_length cs
  rw [h0, h1, h2]
  by_cases e : k = j
  · subst e
    simp [List.getElem?_set, hl, show k * 3 < cs.length * 3 by omega, show k * 3 + 1 < cs.length * 3 by omega, show k * 3 + 2 < cs.length * 3 by omega]
  · simp only [List.getElem?_set, List.getElem_set_ne e]
    rw [if_neg (by omega), if_neg (by omega), if_neg (by omega), if_neg (by omega), if_neg (by omega), if_neg (by omega), if_neg (by omega), if_neg (by omega), if_neg (by omega)]
    exact ⟨g0, g1, g2⟩
theorem partC_set (cs : List Cyc) (k : Nat) (hk : k < cs.length) : (partC cs k).set k cs[k] = partC cs (k + 1) := by
  apply List.ext_getElem?
  intro j
  have h1 : (cs.take k).length = k := by simp; omega
  have h2 : (cs.take (k + 1)).length = k + 1 := by simp; omega
  simp only [partC, List.getElem?_set, List.length_append, List.length_replicate, h1, List.getElem?_append, h2, List.getElem?_take, List.getElem?_replicate]
  by_cases e : k = j
  · subst e
    simp [hk]
    omega
  · rw [if_neg e]
    by_cases h3 : j < k
    · simp [h3, show j < k + 1 by omega]
    · have h4 : ¬ j < k + 1 := by omega
      simp only [h3, h4, if_false]
      by_cases h5 : j - k < cs.length - k
      · rw [if_pos h5, if_pos (by omega)]
      · rw [if_neg h5, if_neg (by omega)]
theorem partC_all (cs : List Cyc) (k : Nat) (hk : cs.length ≤ k) : partC cs k = cs := by
  unfold partC; rw [List.take_of_length_le hk, show cs.length - k = 0 by omega]; simp
end Go.Proofs.Ytmpmnhnobgidoaa
