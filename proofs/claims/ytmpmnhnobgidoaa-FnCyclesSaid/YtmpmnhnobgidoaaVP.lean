/- The law FnCycles: its numbers. -/
import Derived.Test.YtmpmnhnobgidoaaVO
import Derived.Test.YtmpmnhnobgidoaaCC
namespace Go.Proofs.Ytmpmnhnobgidoaa
set_option linter.unusedSimpArgs false
set_option linter.unusedVariables false
open Go.RowKit Go.Fl Go.Lib

/-! Small whole numbers: the least, the greatest, the other sign. -/
def minW (x y : Nat) : Nat :=
  match FloatKind.f32.format.order x y with
  | some .lt => x
  | some .gt => y
  | some .eq => if (FloatKind.f32.decode x).neg then x else y
  | none => x
def maxW (x y : Nat) : Nat :=
  match FloatKind.f32.format.order x y with
  | some .lt => y
  | some .gt => x
  | some .eq => if (FloatKind.f32.decode x).neg then y else x
  | none => x
theorem min_all : ∀ a b : Fin 17, FloatKind.f32.format.order (fi ((a.val : Int) - 8)) (fi ((b.val : Int) - 8)) ≠ none ∧ minW (fi ((a.val : Int) - 8)) (fi ((b.val : Int) - 8)) = fi (min ((a.val : Int) - 8) ((b.val : Int) - 8)) := by decide +kernel
theorem max_all : ∀ a b : Fin 17, FloatKind.f32.format.order (fi ((a.val : Int) - 8)) (fi ((b.val : Int) - 8)) ≠ none ∧ maxW (fi ((a.val : Int) - 8)) (fi ((b.val : Int) - 8)) = fi (max ((a.val : Int) - 8) ((b.val : Int) - 8)) := by decide +kernel
theorem fi_min {a b : Int} (a1 : -8 ≤ a) (a2 : a ≤ 8) (b1 : -8 ≤ b) (b2 : b ≤ 8) : FloatKind.f32.format.order (fi a) (fi b) ≠ none ∧ minW (fi a) (fi b) = fi (min a b) := by
  have := min_all ⟨(a + 8).toNat, by omega⟩ ⟨(b + 8).toNat, by omega⟩
  simp only [] at this
  rwa [show (((a + 8).toNat : Nat) : Int) - 8 = a by omega, show (((b + 8).toNat : Nat) : Int) - 8 = b by omega] at this
theorem fi_max {a b : Int} (a1 : -8 ≤ a) (a2 : a ≤ 8) (b1 : -8 ≤ b) (b2 : b ≤ 8) : FloatKind.f32.format.order (fi a) (fi b) ≠ none ∧ maxW (fi a) (fi b) = fi (max a b) := by
  have := max_all ⟨(a + 8).toNat, by omega⟩ ⟨(b + 8).toNat, by omega⟩
  simp only [] at this
  rwa [show (((a + 8).toNat : Nat) : Int) - 8 = a by omega, show (((b + 8).toNat : Nat) : Int) - 8 = b by omega] at this
theorem run_minW (P : Program) {a b : Int} (a1 : -8 ≤ a) (a2 : a ≤ 8) (b1 : -8 ≤ b) (b2 : b ≤ 8) (ts : Array TypeId) (t : TypeId) : ∀ w, (Builtin.min_ ts t #[.float .f32 (fi a), .float .f32 (fi b)]).run P w = .ok (.float .f32 (fi (min a b))) w := by
  intro w
  obtain ⟨h1, h2⟩ := fi_min a1 a2 b1 b2
  rw [← h2]
  generalize fi a = x at *
  generalize fi b = y at *
  unfold minW
  simp only [Builtin.min_, Builtin.min2, List.foldlM]
  cases h : FloatKind.f32.format.order x y with
  | none => exact absurd h h1
  | some o => cases o <;> rfl
theorem run_maxW (P : Program) {a b : Int} (a1 : -8 ≤ a) (a2 : a ≤ 8) (b1 : -8 ≤ b) (b2 : b ≤ 8) (ts : Array TypeId) (t : TypeId) : ∀ w, (Builtin.max_ ts t #[.float .f32 (fi a), .float .f32 (fi b)]).run P w = .ok (.float .f32 (fi (max a b))) w := by
  intro w
  obtain ⟨h1, h2⟩ := fi_max a1 a2 b1 b2
  rw [← h2]
  generalize fi a = x at *
  generalize fi b = y at *
  unfold maxW
  simp only [Builtin.max_, Builtin.max2, List.foldlM]
  cases h : FloatKind.f32.format.order x y with
  | none => exact absurd h h1
  | some o => cases o <;> rfl
/-- The other sign. -/
def opp (x : Nat) : Nat := Op.negFloat .f32 x
theorem opp_all : ∀ a : Fin 17, a.val ≠ 8 → opp (fi ((a.val : Int) - 8)) = fi (8 - (a.val : Int)) := by decide +kernel
theorem opp_rv {a : Int} (a1 : -8 ≤ a) (a2 : a ≤ 8) : Rv .f32 (opp (fi a)) ((-a : Int) : Rat) := by
  by_cases h : a = 0
  · subst h
    exact ⟨true, 0, -149, by decide +kernel, by decide +kernel⟩
  · have := opp_all ⟨(a + 8).toNat, by omega⟩ (by show (a + 8).toNat ≠ 8; omega)
    simp only [] at this
    rw [show (((a + 8).toNat : Nat) : Int) - 8 = a by omega, show 8 - (((a + 8).toNat : Nat) : Int) = -a by omega] at this
    rw [this]
    exact fi_rv (by omega) (by omega)
theorem unary_opp (x : Nat) : Op.unary .neg (.float .f32 x) = pure (.float .f32 (opp x)) := rfl
/-! Loads. -/
theorem Wh.isV {xs : List Nat} {ks : List Int} (h : Wh xs ks) : ∀ x ∈ xs, IsV x := fun x hx => by
  obtain ⟨k, rfl, h1, h2⟩ := h.mem x hx
  exact ⟨k, fi_rv h1 h2, h1, h2⟩
theorem Wh.ivs {xs : List Nat} {ks : List Int} (h : Wh xs ks) : xs.map iv = ks := by
  rw [h.1, List.map_map]
  conv => rhs; rw [← List.map_id ks]
  refine List.map_congr_left fun k hk => ?_
  have := h.2 k hk
  exact iv_is (fi_rv this.1 this.2)
def opps (xs : List Nat) : List Nat := xs.map opp
theorem Wh.oppV {xs : List Nat} {ks : List Int} (h : Wh xs ks) : (∀ x ∈ opps xs, IsV x) ∧ (opps xs).map iv = nl ks := by
  constructor
  · intro y hy
    obtain ⟨x, hx, rfl⟩ := List.mem_map.1 hy
    obtain ⟨k, rfl, h1, h2⟩ := h.mem x hx
    exact ⟨-k, opp_rv h1 h2, by omega, by omega⟩
  · unfold opps nl
    rw [h.1, List.map_map, List.map_map]
    refine List.map_congr_left fun k hk => ?_
    have := h.2 k hk
    exact iv_is (opp_rv this.1 this.2)
theorem isV_fin {xs : List Nat} (h : ∀ x ∈ xs, IsV x) : finAll xs = true := by
  unfold finAll
  rw [List.all_eq_true]
  exact fun x hx => (h x hx).rv.1.fin
theorem isV_loads {xs : List Nat} (h : ∀ x ∈ xs, IsV x) (h1 : 1 ≤ xs.length) (h2 : xs.length ≤ 16) : loadsOk xs = true := by
  unfold loadsOk
  rw [isV_fin h]
  simp
  omega
def lowTo (ks : List Int) : Nat → Int
  | 0 => ks.getD 0 0
  | k + 1 => min (lowTo ks k) (ks.getD k 0)
def highTo (ks : List Int) : Nat → Int
  | 0 => ks.getD 0 0
  | k + 1 => max (highTo ks k) (ks.getD k 0)
theorem getD_in {ks : List Int} {k : Nat} (h : k < ks.length) : ks.getD k 0 ∈ ks := by
  rw [List.getD_eq_getElem?_getD, List.getElem?_eq_getElem h]
  exact List.getElem_mem h
theorem lowTo_mem {ks : List Int} (h : 1 ≤ ks.length) : ∀ k, k ≤ ks.length → lowTo ks k ∈ ks
  | 0, _ => getD_in h
  | k + 1, hk => by
    have h1 := lowTo_mem h k (by omega)
    have h2 := getD_in (ks := ks) (k := k) (by omega)
    show min (lowTo ks k) (ks.getD k 0) ∈ ks
    rw [Int.min_def]
    split <;> assumption
theorem highTo_mem {ks : List Int} (h : 1 ≤ ks.length) : ∀ k, k ≤ ks.length → highTo ks k ∈ ks
  | 0, _ => getD_in h
  | k + 1, hk => by
    have h1 := highTo_mem h k (by omega)
    have h2 := getD_in (ks := ks) (k := k) (by omega)
    show max (highTo ks k) (ks.getD k 0) ∈ ks
    rw [Int.max_def]
    split <;> assumption
theorem lowTo_le {ks : List Int} : ∀ k, ∀ j, j < k → lowTo ks k ≤ ks.getD j 0
  | k + 1, j, hj => by
    show min (lowTo ks k) (ks.getD k 0) ≤ _
    by_cases h : j = k
    · subst h; omega
    · have := lowTo_le (ks := ks) k j (by omega); omega
theorem highTo_ge {ks : List Int} : ∀ k, ∀ j, j < k → ks.getD j 0 ≤ highTo ks k
  | k + 1, j, hj => by
    show _ ≤ max (highTo ks k) (ks.getD k 0)
    by_cases h : j = k
    · subst h; omega
    · have := highTo_ge (ks := ks) k j (by omega); omega
def lowOf (ks : List Int) : Int := lowTo ks ks.length
def highOf (ks : List Int) : Int := highTo ks ks.length
theorem low_le {ks : List Int} : ∀ k ∈ ks, lowOf ks ≤ k ∧ k ≤ highOf ks := by
  intro k hk
  obtain ⟨j, hj, rfl⟩ := List.getElem_of_mem hk
  have h1 := lowTo_le (ks := ks) ks.length j hj
  have h2 := highTo_ge (ks := ks) ks.length j hj
  rw [List.getD_eq_getElem?_getD, List.getElem?_eq_getElem hj] at h1 h2
  exact ⟨h1, h2⟩
/-! Ends. -/
theorem rv_take3 {zs : List Nat} {i : Nat} (h : i + 2 < zs.length) : ∃ u v, rv zs = u ++ iv zs[i + 2] :: iv zs[i + 1] :: iv zs[i] :: v := by
  have e : zs = zs.take i ++ (zs[i] :: zs[i + 1] :: zs[i + 2] :: zs.drop (i + 3)) := by
    conv => lhs; rw [← List.take_append_drop i zs]
    rw [List.drop_eq_getElem_cons (show i < zs.length by omega), List.drop_eq_getElem_cons (show i + 1 < zs.length by omega), List.drop_eq_getElem_cons h]
  refine ⟨rv (zs.drop (i + 3)), rv (zs.take i), (congrArg rv e).trans ?_⟩
  unfold rv
  simp only [List.map_append, List.map_cons, List.reverse_append, List.reverse_cons, List.append_assoc, List.cons_append, List.nil_append]
theorem rv_take2 {zs : List Nat} {i : Nat} (h : i + 1 < zs.length) : ∃ u v, rv zs = u ++ iv zs[i + 1] :: iv zs[i] :: v := by
  have e : zs = zs.take i ++ (zs[i] :: zs[i + 1] :: zs.drop (i + 2)) := by
    conv => lhs; rw [← List.take_append_drop i zs]
    rw [List.drop_eq_getElem_cons (show i < zs.length by omega), List.drop_eq_getElem_cons h]
  refine ⟨rv (zs.drop (i + 2)), rv (zs.take i), (congrArg rv e).trans ?_⟩
  unfold rv
  simp only [List.map_append, List.map_cons, List.reverse_append, List.reverse_cons, List.append_assoc, List.cons_append, List.nil_append]
def od (x y : Nat) : Option Ordering := FloatKind.f32.format.order x y
theorem od_iv {x y : Nat} (hx : IsV x) (hy : IsV y) : FloatKind.f32.format.order x y = some (if iv x < iv y then .lt else if iv x = iv y then .eq else .gt) := by
  rw [order_q hx.rv.1 hy.rv.1]
  simp only [Rat.intCast_lt_intCast, Rat.intCast_inj]
/-- The ends go up and down. -/
structure EndsF (xs zs : List Nat) : Prop where
  pos : 1 ≤ zs.length
  len : zs.length ≤ xs.length
  head : FloatKind.f32.format.order (zs.getD 0 0) (xs.getD 0 0) = some .eq
  last : FloatKind.f32.format.order (zs.getD (zs.length - 1) 0) (xs.getD (xs.length - 1) 0) = some .eq
  ne : ∀ i, i + 1 < zs.length → (FloatKind.f32.format.order (zs.getD (i + 1) 0) (zs.getD i 0) == some .eq) = false
  zig : ∀ i, i + 2 < zs.length → (FloatKind.f32.format.order (zs.getD (i + 2) 0) (zs.getD (i + 1) 0) = some .gt ∧ FloatKind.f32.format.order (zs.getD (i + 1) 0) (zs.getD i 0) = some .lt) ∨ (FloatKind.f32.format.order (zs.getD (i + 2) 0) (zs.getD (i + 1) 0) = some .lt ∧ FloatKind.f32.format.order (zs.getD (i + 1) 0) (zs.getD i 0) = some .gt)
theorem getD_at {zs : List Nat} {i : Nat} (h : i < zs.length) : zs.getD i 0 = zs[i] := by rw [List.getD_eq_getElem?_getD, List.getElem?_eq_getElem h]; rfl
theorem endsF {xs : List Nat} {ks : List Int} (h : Wh xs ks) (h1 : 1 ≤ xs.length) : EndsF xs (ends xs) := by
  have hv := h.isV
  have hz := ends_P hv
  have hr := ends_rv hv
  rw [h.ivs] at hr
  have hE := ends_of ks
  rw [← hr] at hE
  have hl := h.len
  have hle : (ends xs).length ≤ xs.length := by have := ends_length xs []; simpa [ends] using this
  generalize ends xs = zs at *
  have hkne : ks ≠ [] := by intro e; rw [e] at hl; simp only [List.length_nil] at hl; omega
  have hpos : 1 ≤ zs.length := by
    cases zs with
    | nil =>
      have := hE.head
      rw [show rv [] = [] from rfl, List.head?_nil] at this
      exact absurd (List.getLast?_eq_none_iff.1 this.symm) hkne
    | cons a b => simp
  have hV : ∀ {i} (hi : i < zs.length), IsV zs[i] := fun hi => hz _ (List.getElem_mem hi)
  have hX : ∀ {i} (hi : i < xs.length), IsV xs[i] := fun hi => hv _ (List.getElem_mem hi)
  refine ⟨hpos, hle, ?_, ?_, fun i hi => ?_, fun i hi => ?_⟩
  · rw [getD_at (show 0 < zs.length by omega), getD_at (show 0 < xs.length by omega), od_iv (hV _) (hX _)]
    have := hE.last
    unfold rv at this
    rw [List.getLast?_reverse, ← h.ivs, List.head?_map, List.head?_map, List.head?_eq_getElem?, List.head?_eq_getElem?, List.getElem?_eq_getElem (show 0 < zs.length by omega), List.getElem?_eq_getElem (show 0 < xs.length by omega)] at this
    have : iv zs[0] = iv xs[0] := by simpa using this
    rw [this, if_neg (by omega), if_pos rfl]
  · rw [getD_at (show zs.length - 1 < zs.length by omega), getD_at (show xs.length - 1 < xs.length by omega), od_iv (hV _) (hX _)]
    have := hE.head
    unfold rv at this
    rw [List.head?_reverse, ← h.ivs, List.getLast?_map, List.getLast?_map, List.getLast?_eq_getElem?, List.getLast?_eq_getElem?, List.getElem?_eq_getElem (show zs.length - 1 < zs.length by omega), List.getElem?_eq_getElem (show xs.length - 1 < xs.length by omega)] at this
    have : iv zs[zs.length - 1] = iv xs[xs.length - 1] := by simpa using this
    rw [this, if_neg (by omega), if_pos rfl]
  · obtain ⟨u, v, e⟩ := rv_take2 hi
    have hz' := hE.zig
    rw [e] at hz'
    have hn := (Zig.drop u hz').ne
    rw [getD_at hi, getD_at (show i < zs.length by omega), od_iv (hV _) (hV _), if_neg hn]
    split <;> rfl
  · obtain ⟨u, v, e⟩ := rv_take3 hi
    have hz' := hE.zig
    rw [e] at hz'
    have hn := (Zig.drop u hz').1
    rw [getD_at hi, getD_at (show i + 1 < zs.length by omega), getD_at (show i < zs.length by omega), od_iv (hV _) (hV _), od_iv (hV _) (hV _)]
    rcases hn with hn | hn
    · refine .inr ⟨by rw [if_pos hn.1], ?_⟩
      rw [if_neg (by omega), if_neg (by omega)]
    · refine .inl ⟨?_, by rw [if_pos hn.2]⟩
      rw [if_neg (by omega), if_neg (by omega)]
/-! Cycles. -/
theorem cyc_V {xs : List Nat} (h : ∀ x ∈ xs, IsV x) : ∀ c ∈ cycles xs, IsV c.lo ∧ IsV c.hi := by
  intro c hc
  obtain ⟨a, b, wh, rfl, ha, hb⟩ := cycles_P h c hc
  unfold pair
  split
  · exact ⟨hb, ha⟩
  · exact ⟨ha, hb⟩
def hvTo (cs : List Cyc) : Nat → Nat
  | 0 => 0
  | k + 1 => hvTo cs k + (if (cs.getD k zeroCyc).wh then 2 else 1)
theorem hvTo_halves (cs : List Cyc) : ∀ k, k ≤ cs.length → hvTo cs k = halves ((cs.take k).map ic)
  | 0, _ => rfl
  | k + 1, hk => by
    have ih := hvTo_halves cs k (by omega)
    have hd : cs.getD k zeroCyc = cs[k] := by rw [List.getD_eq_getElem?_getD, List.getElem?_eq_getElem (show k < cs.length by omega)]; rfl
    rw [List.take_succ_eq_append_getElem (show k < cs.length by omega), List.map_append, halves_append, ← ih]
    show hvTo cs k + (if (cs.getD k zeroCyc).wh then 2 else 1) = hvTo cs k + halves [ic cs[k]]
    rw [hd]
    rfl
/-- Of a cycle and the other one of the other sign. -/
structure CycF (lo hi : Int) (c d : Cyc) : Prop where
  low : (FloatKind.f32.format.order c.lo (fi lo) == some .lt) = false
  high : (FloatKind.f32.format.order c.hi (fi hi) == some .gt) = false
  lt : FloatKind.f32.format.order c.lo c.hi = some .lt
  wh : d.wh = c.wh
  sub : ∃ R : Int, Rv .f32 (rng c) (R : Rat) ∧ Rv .f32 (rng d) (R : Rat)
theorem cyc_len {xs : List Nat} {ks : List Int} (h : Wh xs ks) : (cycles (opps xs)).length = (cycles xs).length := by
  have e1 := cyc_iv h.isV
  have e2 := cyc_iv h.oppV.1
  rw [h.oppV.2, cyc_ng] at e2
  rw [h.ivs] at e1
  rw [← e1] at e2
  have := congrArg List.length e2
  simpa using this
theorem cycF {xs : List Nat} {ks : List Int} (h : Wh xs ks) {i : Nat} (hi : i < (cycles xs).length) : CycF (lowOf ks) (highOf ks) ((cycles xs).getD i zeroCyc) ((cycles (opps xs)).getD i zeroCyc) := by
  have e1 := cyc_iv h.isV
  have e2 := cyc_iv h.oppV.1
  rw [h.oppV.2, cyc_ng] at e2
  rw [h.ivs] at e1
  rw [← e1] at e2
  have hl := cyc_len h
  have hall := (cyc_all ks).1
  rw [← e1] at hall
  have v1 := cyc_V h.isV
  have v2 := cyc_V h.oppV.1
  generalize cycles xs = cs at *
  generalize cycles (opps xs) = ds at *
  have hj : i < ds.length := by omega
  rw [List.getD_eq_getElem?_getD, List.getD_eq_getElem?_getD, List.getElem?_eq_getElem hi, List.getElem?_eq_getElem hj]
  show CycF _ _ cs[i] ds[i]
  have e3 : ic ds[i] = ng (ic cs[i]) := by
    have := congrArg (fun l => l[i]?) e2
    simpa [hi, hj] using this
  obtain ⟨a1, a2⟩ := v1 cs[i] (List.getElem_mem hi)
  obtain ⟨b1, b2⟩ := v2 ds[i] (List.getElem_mem hj)
  obtain ⟨c1, c2, c3⟩ := hall (ic cs[i]) (List.mem_map.2 ⟨_, List.getElem_mem hi, rfl⟩)
  have l1 := low_le _ c2
  have l2 := low_le _ c3
  have hbd : ∀ k ∈ ks, -8 ≤ k ∧ k ≤ 8 := h.2
  change iv cs[i].lo < iv cs[i].hi at c1
  change iv cs[i].lo ∈ ks at c2
  change iv cs[i].hi ∈ ks at c3
  change lowOf ks ≤ iv cs[i].lo ∧ iv cs[i].lo ≤ highOf ks at l1
  change lowOf ks ≤ iv cs[i].hi ∧ iv cs[i].hi ≤ highOf ks at l2
  have f1 : iv ds[i].lo = -iv cs[i].hi := congrArg IC.lo e3
  have f2 : iv ds[i].hi = -iv cs[i].lo := congrArg IC.hi e3
  have f3 : ds[i].wh = cs[i].wh := congrArg IC.wh e3
  have hne : 1 ≤ ks.length := by
    cases ks with
    | nil => cases c2
    | cons a b => simp
  have hlo := hbd _ (lowTo_mem hne _ (Nat.le_refl _))
  have hhi := hbd _ (highTo_mem hne _ (Nat.le_refl _))
  have rl : Rv .f32 (fi (lowOf ks)) ((lowOf ks : Int) : Rat) := fi_rv hlo.1 hlo.2
  have rh : Rv .f32 (fi (highOf ks)) ((highOf ks : Int) : Rat) := fi_rv hhi.1 hhi.2
  refine ⟨?_, ?_, ?_, f3, iv cs[i].hi - iv cs[i].lo, ?_, ?_⟩
  · have := flt_q a1.rv.1 rl
    rw [decide_eq_false (fun h' => by have := Rat.intCast_lt_intCast.1 h'; omega)] at this
    exact this
  · have := fgt_q a2.rv.1 rh
    rw [decide_eq_false (fun h' => by have := Rat.intCast_lt_intCast.1 h'; omega)] at this
    exact this
  · rw [od_iv a1 a2, if_pos c1]
  · have g1 := a1.rv.2
    have g2 := a2.rv.2
    exact sub_int a2.rv.1 a1.rv.1 (by show _ < 2 ^ 24; omega)
  · have g1 := a1.rv.2
    have g2 := a2.rv.2
    have := sub_int b2.rv.1 b1.rv.1 (by show _ < 2 ^ 24; omega)
    rwa [f1, f2, show -iv cs[i].lo - -iv cs[i].hi = iv cs[i].hi - iv cs[i].lo by omega] at this
theorem cyc_halves {xs : List Nat} {ks : List Int} (h : Wh xs ks) : hvTo (cycles xs) (cycles xs).length = (ends xs).length - 1 := by
  have e1 := cyc_iv h.isV
  rw [h.ivs] at e1
  have h1 := (cyc_all ks).2.1
  have hr := ends_rv h.isV
  rw [h.ivs] at hr
  rw [hvTo_halves _ _ (Nat.le_refl _), List.take_length, e1, h1, ← hr, rv_len]
/-! The greatest range. -/
theorem best_ge {cs : List Cyc} (h : ∀ c ∈ cs, ∃ R : Int, Rv .f32 (rng c) (R : Rat)) : ∀ k, k ≤ cs.length → ∀ j, j < k → fgt .f32 (rngAt cs j) (rngAt cs (bestAt cs k)) = false
  | k + 1, hk, j, hj => by
    have hn : 1 ≤ cs.length := by omega
    have hR : ∀ {i}, i < cs.length → ∃ R : Int, Rv .f32 (rngAt cs i) (R : Rat) := fun {i} hi => by
      obtain ⟨R, hR⟩ := h cs[i] (List.getElem_mem hi)
      refine ⟨R, ?_⟩
      unfold rngAt
      rwa [List.getD_eq_getElem?_getD, List.getElem?_eq_getElem hi]
    have ih := best_ge h k (by omega)
    obtain ⟨A, hA⟩ := hR (show k < cs.length by omega)
    obtain ⟨B, hB⟩ := hR (bestAt_lt cs hn k (by omega))
    obtain ⟨C, hC⟩ := hR (show j < cs.length by omega)
    unfold bestAt
    split
    · rename_i hg
      rw [fgt_q hA hB] at hg
      by_cases hjk : j = k
      · subst hjk; rw [fgt_q hA hA]; simp
      · have := ih j (by omega)
        rw [fgt_q hC hB] at this
        rw [fgt_q hC hA]
        simp at this hg ⊢
        grind
    · rename_i hg
      by_cases hjk : j = k
      · subst hjk; simpa using hg
      · exact ih j (by omega)
structure BestF (lo hi : Int) (cs : List Cyc) : Prop where
  rv : ∃ R : Int, Rv .f32 (rngAt cs (bestAt cs cs.length)) (R : Rat)
  ge : ∀ j, j < cs.length → (FloatKind.f32.format.order (rngAt cs j) (rngAt cs (bestAt cs cs.length)) == some .gt) = false
  all : FloatKind.f32.format.order (rngAt cs (bestAt cs cs.length)) (fa .sub .f32 (fi hi) (fi lo)) = some .eq
  sub : Rv .f32 (fa .sub .f32 (fi hi) (fi lo)) ((hi - lo : Int) : Rat)
theorem lohi_rv {xs : List Nat} {ks : List Int} (h : Wh xs ks) (h1 : 1 ≤ xs.length) : Rv .f32 (fi (lowOf ks)) ((lowOf ks : Int) : Rat) ∧ Rv .f32 (fi (highOf ks)) ((highOf ks : Int) : Rat) ∧ Rv .f32 (fa .sub .f32 (fi (highOf ks)) (fi (lowOf ks))) ((highOf ks - lowOf ks : Int) : Rat) := by
  have hne : 1 ≤ ks.length := by rw [← h.len]; exact h1
  have hlo := h.2 _ (lowTo_mem hne _ (Nat.le_refl _))
  have hhi := h.2 _ (highTo_mem hne _ (Nat.le_refl _))
  have rl : Rv .f32 (fi (lowOf ks)) ((lowOf ks : Int) : Rat) := fi_rv hlo.1 hlo.2
  have rh : Rv .f32 (fi (highOf ks)) ((highOf ks : Int) : Rat) := fi_rv hhi.1 hhi.2
  refine ⟨rl, rh, sub_int rh rl ?_⟩
  show (highTo ks ks.length - lowTo ks ks.length).natAbs < 2 ^ 24
  omega
theorem bestF {xs : List Nat} {ks : List Int} (h : Wh xs ks) (hne : cycles xs ≠ []) (h1 : 1 ≤ xs.length) : BestF (lowOf ks) (highOf ks) (cycles xs) := by
  have e1 := cyc_iv h.isV
  rw [h.ivs] at e1
  obtain ⟨h2, -, h3⟩ := cyc_all ks
  rw [← e1] at h2 h3
  obtain ⟨c0, hc0, hall⟩ := h3 (by simpa using hne)
  obtain ⟨c, hc, rfl⟩ := List.mem_map.1 hc0
  have v1 := cyc_V h.isV
  have hR : ∀ c ∈ cycles xs, Rv .f32 (rng c) ((iv c.hi - iv c.lo : Int) : Rat) := fun c hc => by
    obtain ⟨a1, a2⟩ := v1 c hc
    have g1 := a1.rv.2
    have g2 := a2.rv.2
    exact sub_int a2.rv.1 a1.rv.1 (by show _ < 2 ^ 24; omega)
  have hR' : ∀ c ∈ cycles xs, ∃ R : Int, Rv .f32 (rng c) (R : Rat) := fun c hc => ⟨_, hR c hc⟩
  obtain ⟨rl, rh, rs⟩ := lohi_rv h h1
  generalize hcs : cycles xs = cs at *
  have hn : 1 ≤ cs.length := by
    cases cs with
    | nil => exact absurd rfl hne
    | cons a b => simp
  have hge := best_ge hR' cs.length (Nat.le_refl _)
  have hb := bestAt_lt cs hn cs.length (Nat.le_refl _)
  generalize hbb : bestAt cs cs.length = b at *
  have hrb : rngAt cs b = rng cs[b] := by unfold rngAt; rw [List.getD_eq_getElem?_getD, List.getElem?_eq_getElem hb]; rfl
  have hRb := hR cs[b] (List.getElem_mem hb)
  refine ⟨?_, ?_, ?_, rs⟩
  · rw [hbb, hrb]; exact ⟨_, hRb⟩
  · rw [hbb]; exact fun j hj => hge j hj
  · rw [hbb, hrb, order_q hRb rs]
    obtain ⟨j, hj, rfl⟩ := List.getElem_of_mem hc
    have hrj : rngAt cs j = rng cs[j] := by unfold rngAt; rw [List.getD_eq_getElem?_getD, List.getElem?_eq_getElem hj]; rfl
    have g := hge j hj
    rw [hrj, hrb, fgt_q (hR _ (List.getElem_mem hj)) hRb] at g
    have g' : ¬ (iv cs[b].hi - iv cs[b].lo < iv cs[j].hi - iv cs[j].lo) := fun h' => of_decide_eq_false g (Rat.intCast_lt_intCast.2 h')
    obtain ⟨c1, c2, c3⟩ := h2 (ic cs[b]) (List.mem_map.2 ⟨_, List.getElem_mem hb, rfl⟩)
    have l1 := low_le _ c2
    have l2 := low_le _ c3
    have hke : 1 ≤ ks.length := by rw [← h.len]; exact h1
    have m1 := hall _ (lowTo_mem hke _ (Nat.le_refl _))
    have m2 := hall _ (highTo_mem hke _ (Nat.le_refl _))
    change iv cs[j].lo ≤ lowOf ks ∧ lowOf ks ≤ iv cs[j].hi at m1
    change iv cs[j].lo ≤ highOf ks ∧ highOf ks ≤ iv cs[j].hi at m2
    change lowOf ks ≤ iv cs[b].lo ∧ iv cs[b].lo ≤ highOf ks at l1
    change lowOf ks ≤ iv cs[b].hi ∧ iv cs[b].hi ≤ highOf ks at l2
    have e : iv cs[b].hi - iv cs[b].lo = highOf ks - lowOf ks := by omega
    rw [e]
    simp
/-! Counts. -/
theorem q1_rv {c : Cyc} (h : CW2 c) : ∃ R : Nat, R ≤ 16 ∧ qOf c 1065353216 = FloatKind.f32.format.nearest false R 0 := by
  obtain ⟨R, hR, e⟩ := h.rng
  refine ⟨R, hR, ?_⟩
  unfold qOf
  rw [e]
  exact q1_all ⟨R, by omega⟩
theorem q1_bin : ∀ R : Fin 17, binIn (FloatKind.f32.format.nearest false R.val 0) 32 = true ∧ binOf (FloatKind.f32.format.nearest false R.val 0) < 32 := by decide +kernel
theorem sumTo_set (zs : List Int) (b : Nat) (v : Int) : ∀ k, sumTo (zs.set b v) k = sumTo zs k + (if b < k ∧ b < zs.length then v - zs.getD b 0 else 0)
  | 0 => by simp [sumTo]
  | k + 1 => by
    have ih := sumTo_set zs b v k
    show sumTo (zs.set b v) k + (zs.set b v).getD k 0 = sumTo zs k + zs.getD k 0 + _
    rw [ih]
    have e : (zs.set b v).getD k 0 = if b = k ∧ b < zs.length then v else zs.getD k 0 := by
      rw [List.getD_eq_getElem?_getD, List.getElem?_set]
      by_cases h : b = k
      · subst h
        by_cases h2 : b < zs.length
        · simp [h2]
        · simp [h2]
      · simp [h, List.getD_eq_getElem?_getD]
    rw [e]
    by_cases h : b = k
    · subst h
      by_cases h2 : b < zs.length
      · simp [h2]; omega
      · simp [h2]
    · by_cases h2 : b < k ∧ b < zs.length
      · rw [if_pos h2, if_neg (by omega), if_pos (by omega)]; omega
      · rw [if_neg h2, if_neg (by omega), if_neg (by omega)]; omega
theorem sumTo_zero (n : Nat) : ∀ k, sumTo (List.replicate n 0) k = 0
  | 0 => rfl
  | k + 1 => by
    show sumTo (List.replicate n 0) k + (List.replicate n 0).getD k 0 = 0
    rw [sumTo_zero n k, List.getD_eq_getElem?_getD, List.getElem?_replicate]
    split <;> rfl
theorem cnt_sum {cs : List Cyc} (h : ∀ c ∈ cs, CW2 c) : ∀ k, k ≤ cs.length → sumTo (cnt cs 1065353216 32 k) 32 = (hvTo cs k : Int)
  | 0, _ => sumTo_zero _ _
  | k + 1, hk => by
    have ih := cnt_sum h k (by omega)
    have hc := h cs[k] (List.getElem_mem (by omega))
    have hd : cs.getD k zeroCyc = cs[k] := by rw [List.getD_eq_getElem?_getD, List.getElem?_eq_getElem (show k < cs.length by omega)]; rfl
    obtain ⟨R, hR, e⟩ := q1_rv hc
    have hb := q1_bin ⟨R, by omega⟩
    simp only [] at hb
    rw [← e] at hb
    have hlen := cnt_length cs 1065353216 32 k
    rw [cnt_succ _ _ _ _ (by omega)]
    show sumTo (bump _ _ _ _) 32 = ((hvTo cs k + (if (cs.getD k zeroCyc).wh then 2 else 1) : Nat) : Int)
    rw [hd]
    unfold bump
    rw [if_pos hb.1]
    split
    · rw [sumTo_set, if_pos ⟨hb.2, by omega⟩, ih]; push_cast; omega
    · rw [sumTo_set, if_pos ⟨hb.2, by omega⟩, ih]; push_cast; omega
theorem sumTo_pos {zs : List Int} {m : Int} (hm : 0 ≤ m) (h : ∀ z ∈ zs, 0 ≤ z ∧ z ≤ m) : ∀ j, 0 ≤ sumTo zs j ∧ sumTo zs j ≤ m * (j : Int)
  | 0 => by simp [sumTo]
  | j + 1 => by
    have h1 := sumTo_pos hm h j
    have h2 : 0 ≤ zs.getD j 0 ∧ zs.getD j 0 ≤ m := by
      rw [List.getD_eq_getElem?_getD]
      cases he : zs[j]? with
      | none => simp; omega
      | some y => exact h y (List.mem_of_getElem? he)
    show 0 ≤ sumTo zs j + zs.getD j 0 ∧ sumTo zs j + zs.getD j 0 ≤ m * ((j + 1 : Nat) : Int)
    rw [show m * ((j + 1 : Nat) : Int) = m * (j : Int) + m by push_cast; grind]
    omega
/-! All together. -/
theorem FEq.isV {xs ys : List Nat} (h : FEq xs ys) (hv : ∀ x ∈ ys, IsV x) : xs = ys := by
  have hl := h.length
  refine List.ext_getElem hl fun i h1 h2 => ?_
  exact cn_is (h.get i h1 h2 |>.trans (hv _ (List.getElem_mem h2)).rv.1.cn) (hv _ (List.getElem_mem h2)).rv.1
structure LongF (cs : List Cyc) (lo hi : Int) (I : Int) (M : Nat) : Prop where
  ge : ∀ j, j < cs.length → (FloatKind.f32.format.order (rngAt cs j) M == some .gt) = false
  at' : ∀ j : Nat, j < cs.length → (j : Int) = I → FloatKind.f32.format.order (rngAt cs j) M = some .eq
  all : 1 ≤ cs.length → FloatKind.f32.format.order M (fa .sub .f32 (fi hi) (fi lo)) = some .eq
structure FnC (xs : List Nat) (lo hi : Int) (zs : List Nat) (cs ds : List Cyc) : Prop where
  ends : EndsF xs zs
  len : cs.length ≤ 16
  back : ds.length = cs.length
  cyc : ∀ i, i < cs.length → CycF lo hi (cs.getD i zeroCyc) (ds.getD i zeroCyc)
  halves : hvTo cs cs.length = zs.length - 1
  sum : sumTo (cnt cs 1065353216 32 cs.length) 32 = (hvTo cs cs.length : Int)
  sub : Rv .f32 (fa .sub .f32 (fi hi) (fi lo)) ((hi - lo : Int) : Rat)
  best : 1 ≤ cs.length → BestF lo hi cs
  are : areCyc cs = true
theorem hvTo_le (cs : List Cyc) : ∀ k, hvTo cs k ≤ 2 * k
  | 0 => Nat.le_refl _
  | k + 1 => by
    have := hvTo_le cs k
    show hvTo cs k + _ ≤ _
    split <;> omega
theorem FnC.of {xs : List Nat} {ks : List Int} (h : Wh xs ks) (h1 : 1 ≤ xs.length) (h2 : xs.length ≤ 16) : FnC xs (lowOf ks) (highOf ks) (Go.Proofs.Ytmpmnhnobgidoaa.ends xs) (cycles xs) (cycles (opps xs)) := by
  have hl : (cycles xs).length ≤ 16 := by have := cycles_len h.fin; omega
  have hw := cycles_W h.mem
  exact ⟨endsF h h1, hl, cyc_len h, fun i hi => cycF h hi, cyc_halves h, cnt_sum hw _ (Nat.le_refl _), (lohi_rv h h1).2.2, fun hc => bestF h (by intro e; rw [e] at hc; simp at hc) h1, areCyc_W hw (by omega)⟩
theorem FnC.long {xs : List Nat} {lo hi : Int} {zs : List Nat} {cs ds : List Cyc} (h : FnC xs lo hi zs cs ds) {r : Nat} (hr : cn .f32 r = cn .f32 (if longGood cs then num (rngAt cs (bestAt cs cs.length)) else 0)) :
    (longGood cs && fin .f32 (rngAt cs (bestAt cs cs.length))) = decide (1 ≤ cs.length) ∧ LongF cs lo hi (place (longGood cs) (bestAt cs cs.length) (rngAt cs (bestAt cs cs.length)) : Nat) r := by
  have hg : longGood cs = decide (1 ≤ cs.length) := by unfold longGood; rw [h.are]; rfl
  by_cases hc : 1 ≤ cs.length
  · have hb := h.best hc
    obtain ⟨R, hR⟩ := hb.rv
    have e : longGood cs = true := by rw [hg]; simpa using hc
    have hS : r = rngAt cs (bestAt cs cs.length) := by
      rw [e] at hr
      simp only [if_true, num, hR.fin, hR.cn] at hr
      exact cn_is hr hR
    have hp : place (longGood cs) (bestAt cs cs.length) (rngAt cs (bestAt cs cs.length)) = bestAt cs cs.length := by
      unfold place
      rw [e, hR.fin]
      rfl
    rw [hp, e, hR.fin, hS]
    refine ⟨by simpa using hc, hb.ge, fun j hj hi => ?_, fun _ => hb.all⟩
    have : j = bestAt cs cs.length := by omega
    rw [this, order_q hR hR, if_neg Rat.lt_irrefl, if_pos rfl]
  · have e : longGood cs = false := by rw [hg]; simpa using hc
    rw [e]
    exact ⟨by simpa using hc, fun j hj => absurd hj (by omega), fun j hj => absurd hj (by omega), fun h' => absurd h' hc⟩
end Go.Proofs.Ytmpmnhnobgidoaa
