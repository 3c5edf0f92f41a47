/- Walks: the text of a profile, both. -/
import Derived.Test.YtglfjanclopipaaKB

namespace Go.Proofs.Ytglfjanclopipaa
set_option linter.unusedSimpArgs false
set_option linter.unusedVariables false
open Go.RowKit Go.Fl Go.Lib

theorem profLen_of {a l d : List Nat} (h : profOk a l d = true) : a.length ≤ 24 ∧ l.length ≤ 24 ∧ d.length ≤ 24 := by
  unfold profOk profLen at h
  simp only [Bool.and_eq_true, decide_eq_true_eq] at h
  omega
theorem l_szFK (p : Option Addr) (n cap : Nat) (left : Int) (h0 : 0 ≤ left) (h1 : left ≤ 1048576) (hn : n ≤ 9223372036854775807) (w : World) :
    Calls Try.prog 54 #[.slice p n cap, .int .i64 left] w fun e w' => e = .returned (.int .i64 (if left - n < 0 then -1 else left - n)) ∧ ∃ n, w' = w.drewN n := by
  by_cases h : left - n < 0
  all_goals
    go_enter Try.func54, Try.ntmps54
    go_wp2
    go_ret
    exact ⟨by simp [h], 0, rfl⟩
/-- A slice of numbers as it came in: its length alone. -/
def RFn (v : Value) (n : Nat) : Prop := ∃ p c, v = .slice p n c ∧ n ≤ 9223372036854775807
set_option maxHeartbeats 1000000 in
theorem l_szProfile (va vl vd : Value) (na nl nd : Nat) (w : World) (left : Int) (h0 : 0 ≤ left) (h1 : left ≤ 1048576) (ha : RFn va na) (hl : RFn vl nl) (hd : RFn vd nd) :
    Calls Try.prog 52 #[profV va vl vd, .int .i64 left] w fun e w' => (∃ r : Int, e = .returned (.int .i64 r) ∧ (0 ≤ r → r = left - (na + nl + nd))) ∧ Below w.heap.size w w' := by
  obtain ⟨pa, ca, rfl, ma⟩ := ha
  obtain ⟨pl, cl, rfl, ml⟩ := hl
  obtain ⟨pd, cd, rfl, md⟩ := hd
  have HN := Lib.hid (fun p (n cap : Nat) left h0 h1 hn W (h : left - (n : Int) < 0) => by have := l_szFK p n cap left h0 h1 hn W; rw [if_pos h] at this; exact this)
  have HP := Lib.hid (fun p (n cap : Nat) left h0 h1 hn W (h : ¬ left - (n : Int) < 0) => by have := l_szFK p n cap left h0 h1 hn W; rw [if_neg h] at this; exact this)
  by_cases q1 : left - na < 0
  · go_enter Try.func52, Try.ntmps52
    go_wp2_with fail
    refine (HN.out pa _ _ _ h0 h1 ma _ (by omega)).mono ?_
    rintro e w1 ⟨rfl, n1, rfl⟩
    go_wp2
    go_ret
    exact ⟨⟨_, rfl, fun h => absurd h (by decide)⟩, (by repeat (first | exact Below.refl _ _ | assumption | refine below_drewN ?_ _ | refine below_alloc (Nat.le_refl _) ?_ _ | (refine Below.setCell ?_ (by first | exact Nat.le_refl _ | (simp; done) | (simp; omega) | omega) _) | (refine below_step (Nat.le_refl _) ?_ (by assumption))))⟩
  by_cases q2 : left - na - nl < 0
  · go_enter Try.func52, Try.ntmps52
    go_wp2_with fail
    refine (HP.out pa _ _ _ h0 h1 ma _ (by omega)).mono ?_
    rintro e w1 ⟨rfl, n1, rfl⟩
    go_wp2_with fail
    refine (HN.out pl _ _ (left - na) (by omega) (by omega) ml _ (by omega)).mono ?_
    rintro e w2 ⟨rfl, n2, rfl⟩
    go_wp2
    go_ret
    exact ⟨⟨_, rfl, fun h => absurd h (by decide)⟩, (by repeat (first | exact Below.refl _ _ | assumption | refine below_drewN ?_ _ | refine below_alloc (Nat.le_refl _) ?_ _ | (refine Below.setCell ?_ (by first | exact Nat.le_refl _ | (simp; done) | (simp; omega) | omega) _) | (refine below_step (Nat.le_refl _) ?_ (by assumption))))⟩
  by_cases q3 : left - na - nl - nd < 0
  · go_enter Try.func52, Try.ntmps52
    go_wp2_with fail
    refine (HP.out pa _ _ _ h0 h1 ma _ (by omega)).mono ?_
    rintro e w1 ⟨rfl, n1, rfl⟩
    go_wp2_with fail
    refine (HP.out pl _ _ (left - na) (by omega) (by omega) ml _ (by omega)).mono ?_
    rintro e w2 ⟨rfl, n2, rfl⟩
    go_wp2_with fail
    refine (HN.out pd _ _ (left - na - nl) (by omega) (by omega) md _ (by omega)).mono ?_
    rintro e w3 ⟨rfl, n3, rfl⟩
    go_wp2
    go_ret
    exact ⟨⟨_, rfl, fun h => absurd h (by decide)⟩, (by repeat (first | exact Below.refl _ _ | assumption | refine below_drewN ?_ _ | refine below_alloc (Nat.le_refl _) ?_ _ | (refine Below.setCell ?_ (by first | exact Nat.le_refl _ | (simp; done) | (simp; omega) | omega) _) | (refine below_step (Nat.le_refl _) ?_ (by assumption))))⟩
  go_enter Try.func52, Try.ntmps52
  go_wp2_with fail
  refine (HP.out pa _ _ _ h0 h1 ma _ (by omega)).mono ?_
  rintro e w1 ⟨rfl, n1, rfl⟩
  go_wp2_with fail
  refine (HP.out pl _ _ (left - na) (by omega) (by omega) ml _ (by omega)).mono ?_
  rintro e w2 ⟨rfl, n2, rfl⟩
  go_wp2_with fail
  refine (HP.out pd _ _ (left - na - nl) (by omega) (by omega) md _ (by omega)).mono ?_
  rintro e w3 ⟨rfl, n3, rfl⟩
  go_wp2
  go_ret
  exact ⟨⟨_, rfl, fun _ => by omega⟩, (by repeat (first | exact Below.refl _ _ | assumption | refine below_drewN ?_ _ | refine below_alloc (Nat.le_refl _) ?_ _ | (refine Below.setCell ?_ (by first | exact Nat.le_refl _ | (simp; done) | (simp; omega) | omega) _) | (refine below_step (Nat.le_refl _) ?_ (by assumption))))⟩
theorem ne_addr {g k i j : Nat} (h : g ≠ k) : (⟨k, i, none⟩ : Addr) ≠ ⟨g, j, none⟩ := fun e => h (by cases e; rfl)
theorem ProfAt.other {w : World} {g k i : Nat} {x y z v : Value} (h : ProfAt w g x y z) (hk : g ≠ k) : ProfAt (w.setCell ⟨k, i, none⟩ v) g x y z := by
  obtain ⟨h0, h1, h2⟩ := h
  exact ⟨(World.cell?_setCell_other _ _ _ _ (ne_addr hk)).trans h0, (World.cell?_setCell_other _ _ _ _ (ne_addr hk)).trans h1, (World.cell?_setCell_other _ _ _ _ (ne_addr hk)).trans h2⟩
theorem off_ne {k i j : Nat} (h : i ≠ j) : (⟨k, i, none⟩ : Addr) ≠ ⟨k, j, none⟩ := fun e => h (by cases e; rfl)
theorem ProfAt.set0 {w : World} {k : Nat} {x y z v : Value} (h : ProfAt w k x y z) : ProfAt (w.setCell ⟨k, 0, none⟩ v) k v y z := by
  obtain ⟨h0, h1, h2⟩ := h
  exact ⟨World.cell?_setCell_same _ _ _ h0, (World.cell?_setCell_other _ _ _ _ (off_ne (by decide))).trans h1, (World.cell?_setCell_other _ _ _ _ (off_ne (by decide))).trans h2⟩
theorem ProfAt.set1 {w : World} {k : Nat} {x y z v : Value} (h : ProfAt w k x y z) : ProfAt (w.setCell ⟨k, 1, none⟩ v) k x v z := by
  obtain ⟨h0, h1, h2⟩ := h
  exact ⟨(World.cell?_setCell_other _ _ _ _ (off_ne (by decide))).trans h0, World.cell?_setCell_same _ _ _ h1, (World.cell?_setCell_other _ _ _ _ (off_ne (by decide))).trans h2⟩
theorem ProfAt.set2 {w : World} {k : Nat} {x y z v : Value} (h : ProfAt w k x y z) : ProfAt (w.setCell ⟨k, 2, none⟩ v) k x y v := by
  obtain ⟨h0, h1, h2⟩ := h
  exact ⟨(World.cell?_setCell_other _ _ _ _ (off_ne (by decide))).trans h0, (World.cell?_setCell_other _ _ _ _ (off_ne (by decide))).trans h1, World.cell?_setCell_same _ _ _ h2⟩
/-- Blocks that no one has frozen. -/
def Soft (w : World) (g : Nat) : Prop := ∀ j, w.frozen? ⟨g, j, none⟩ = false
theorem Soft.set {w : World} {g : Nat} {a : Addr} {v : Value} (h : Soft w g) : Soft (w.setCell a v) g := fun j => (World.frozen?_setCell ..).trans (h j)
theorem Soft.below {w w' : World} {g : Nat} (h : Soft w g) (hb : Below w.heap.size w w') (hg : g < w.heap.size) : Soft w' g := fun j => (hb.frozen (p := ⟨g, j, none⟩) hg).trans (h j)
theorem soft_top (w : World) (k : Nat) (hk : k = w.heap.size) (cs : Array Value) (t : TypeId) : Soft (w.alloc (.cells cs t)) k := by
  subst hk
  have e : (w.alloc (.cells cs t)).heap[w.heap.size]? = some (.cells cs t) := heap_alloc_new w _
  intro j
  simp only [World.frozen?, e]
  simp
theorem OF_set {B : Nat} {w : World} {v : Value} {xs : List Nat} (h : OF B w v xs) {k i : Nat} (hk : k < B) (u : Value) : OF B (w.setCell ⟨k, i, none⟩ u) v xs := ownsRow_setCell_below h hk u
theorem OF_le {B B' : Nat} {w : World} {v : Value} {xs : List Nat} (h : OF B w v xs) (hb : B' ≤ B) : OF B' w v xs :=
  ⟨h.1, h.2.imp id fun ⟨g, cap, cur, e, hb1, r⟩ => ⟨g, cap, cur, e, Nat.le_trans hb hb1, r⟩⟩
theorem size_set (w : World) (a : Addr) (v : Value) : (w.setCell a v).heap.size = w.heap.size := by simp
set_option maxRecDepth 100000 in
set_option maxHeartbeats 2000000 in
theorem l_toProfileO (va vl vd : Value) (a l d : List Nat) (w : World) (ha : RF w va a) (hl : RF w vl l) (hd : RF w vd d) (la : a.length ≤ 1048576) (ll : l.length ≤ 1048576) (ld : d.length ≤ 1048576) :
    Calls Try.prog 59 #[profV va vl vd] w fun e' w' => ∃ ua ul ud, e' = .returned (profV ua ul ud) ∧ OF w.heap.size w' ua a ∧ OF w.heap.size w' ul l ∧ OF w.heap.size w' ud d ∧ Below w.heap.size w w' := by
  have H1 := Lib.hid (fun W (hb : Below w.heap.size w W) => l_toFloat32S va a W (RF_below ha hb) la)
  have H2 := Lib.hid (fun W (hb : Below w.heap.size w W) => l_toFloat32S vl l W (RF_below hl hb) ll)
  have H3 := Lib.hid (fun W (hb : Below w.heap.size w W) => l_toFloat32S vd d W (RF_below hd hb) ld)
  have L1 := Lib.hid la
  have L2 := Lib.hid ll
  have L3 := Lib.hid ld
  clear ha hl hd la ll ld
  go_enter Try.func59, Try.ntmps59
  go_wp2_with fail
  have B0 : Below w.heap.size w (((w.alloc (.cells #[va, vl, vd] 24)).alloc (.cells #[.slice none 0 0, .slice none 0 0, .slice none 0 0] 41)).alloc (.cells #[.slice none 0 0, .slice none 0 0, .slice none 0 0] 41)) := (by repeat (first | exact Below.refl _ _ | assumption | refine below_drewN ?_ _ | refine below_alloc (Nat.le_refl _) ?_ _ | (refine Below.setCell ?_ (by first | exact Nat.le_refl _ | (simp; done) | (simp; omega) | omega) _) | (refine below_step (Nat.le_refl _) ?_ (by assumption))))
  have P0 : ProfAt (((w.alloc (.cells #[va, vl, vd] 24)).alloc (.cells #[.slice none 0 0, .slice none 0 0, .slice none 0 0] 41)).alloc (.cells #[.slice none 0 0, .slice none 0 0, .slice none 0 0] 41)) w.heap.size va vl vd := (prof_top w _ rfl va vl vd _).below (below_alloc (Nat.le_refl _) (below_alloc (Nat.le_refl _) (Below.refl _ _) _) _)
  have Q0 : ProfAt (((w.alloc (.cells #[va, vl, vd] 24)).alloc (.cells #[.slice none 0 0, .slice none 0 0, .slice none 0 0] 41)).alloc (.cells #[.slice none 0 0, .slice none 0 0, .slice none 0 0] 41)) (w.heap.size + 1) (.slice none 0 0) (.slice none 0 0) (.slice none 0 0) := (prof_top (w.alloc (.cells #[va, vl, vd] 24)) _ (by simp) _ _ _ 41).below (below_alloc (Nat.le_refl _) (Below.refl _ _) _)
  have S0 : Soft (((w.alloc (.cells #[va, vl, vd] 24)).alloc (.cells #[.slice none 0 0, .slice none 0 0, .slice none 0 0] 41)).alloc (.cells #[.slice none 0 0, .slice none 0 0, .slice none 0 0] 41)) (w.heap.size + 1) := (soft_top (w.alloc (.cells #[va, vl, vd] 24)) _ (by simp) _ _).below (below_alloc (Nat.le_refl _) (Below.refl _ _) _) (by simp)
  have R0 : ProfAt (((w.alloc (.cells #[va, vl, vd] 24)).alloc (.cells #[.slice none 0 0, .slice none 0 0, .slice none 0 0] 41)).alloc (.cells #[.slice none 0 0, .slice none 0 0, .slice none 0 0] 41)) (w.heap.size + 1 + 1) (.slice none 0 0) (.slice none 0 0) (.slice none 0 0) := prof_top _ _ (by simp) _ _ _ _
  have T0 : Soft (((w.alloc (.cells #[va, vl, vd] 24)).alloc (.cells #[.slice none 0 0, .slice none 0 0, .slice none 0 0] 41)).alloc (.cells #[.slice none 0 0, .slice none 0 0, .slice none 0 0] 41)) (w.heap.size + 1 + 1) := soft_top _ _ (by simp) _ _
  have N0 : w.heap.size + 3 = (((w.alloc (.cells #[va, vl, vd] 24)).alloc (.cells #[.slice none 0 0, .slice none 0 0, .slice none 0 0] 41)).alloc (.cells #[.slice none 0 0, .slice none 0 0, .slice none 0 0] 41)).heap.size := by simp
  generalize ((w.alloc (.cells #[va, vl, vd] 24)).alloc (.cells #[.slice none 0 0, .slice none 0 0, .slice none 0 0] 41)).alloc (.cells #[.slice none 0 0, .slice none 0 0, .slice none 0 0] 41) = w0 at *
  refine (H1.out _ B0).mono ?_
  rintro e' w1 ⟨ua, rfl, O1, hb⟩
  replace B0 := below_step (Nat.le_refl _) B0 hb
  replace P0 := P0.below hb
  replace Q0 := Q0.below hb
  replace S0 := S0.below hb (by omega)
  replace R0 := R0.below hb
  replace T0 := T0.below hb (by omega)
  have N1 := hb.size
  obtain ⟨p1, g1, rfl, -, -⟩ := RF_of_own O1 (by have := L1.out; omega)
  have k1 : w1.cell? ⟨w.heap.size + 1 + 1, 0, none⟩ = some (.slice none 0 0) := R0.1
  have f1 : w1.frozen? ⟨w.heap.size + 1 + 1, 0, none⟩ = false := T0 0
  have c1 : (w1.setCell ⟨w.heap.size + 1 + 1, 0, none⟩ (.slice p1 a.length g1)).cell? ⟨w.heap.size, 1, none⟩ = some vl := (P0.other (by omega)).2.1
  have EB := Lib.hid B0; have EP := Lib.hid P0; have EQ := Lib.hid Q0; have ES := Lib.hid S0; have ER := Lib.hid R0; have ET := Lib.hid T0; have EO := Lib.hid O1
  clear hb B0 P0 Q0 S0 R0 T0 O1
  go_wp2_with fail
  clear k1 f1 c1
  have B0 : Below w.heap.size w (w1.setCell ⟨w.heap.size + 1 + 1, 0, none⟩ (.slice p1 a.length g1)) := EB.out.setCell (by show _ ≤ w.heap.size + 1 + 1; omega) _
  have P0 := EP.out.other (k := w.heap.size + 1 + 1) (i := 0) (v := .slice p1 a.length g1) (by omega)
  have Q0 := EQ.out.other (k := w.heap.size + 1 + 1) (i := 0) (v := .slice p1 a.length g1) (by omega)
  have R0 := ER.out.set0 (v := .slice p1 a.length g1)
  have S0 := ES.out.set (a := ⟨w.heap.size + 1 + 1, 0, none⟩) (v := .slice p1 a.length g1)
  have T0 := ET.out.set (a := ⟨w.heap.size + 1 + 1, 0, none⟩) (v := .slice p1 a.length g1)
  have O1 := OF_set EO.out (k := w.heap.size + 1 + 1) (i := 0) (by omega) (.slice p1 a.length g1)
  have M1 := size_set w1 ⟨w.heap.size + 1 + 1, 0, none⟩ (.slice p1 a.length g1)
  clear EB EP EQ ES ER ET EO
  generalize w1.setCell ⟨w.heap.size + 1 + 1, 0, none⟩ (.slice p1 a.length g1) = w1' at *
  refine (H2.out _ B0).mono ?_
  rintro e' w2 ⟨ul, rfl, O2, hb⟩
  replace B0 := below_step (Nat.le_refl _) B0 hb
  replace P0 := P0.below hb
  replace Q0 := Q0.below hb
  replace S0 := S0.below hb (by omega)
  replace R0 := R0.below hb
  replace T0 := T0.below hb (by omega)
  replace O1 := OF_below O1 hb
  have N2 := hb.size
  obtain ⟨p2, g2, rfl, -, -⟩ := RF_of_own O2 (by have := L2.out; omega)
  have k1 : w2.cell? ⟨w.heap.size + 1 + 1, 1, none⟩ = some (.slice none 0 0) := R0.2.1
  have f1 : w2.frozen? ⟨w.heap.size + 1 + 1, 1, none⟩ = false := T0 1
  have c1 : (w2.setCell ⟨w.heap.size + 1 + 1, 1, none⟩ (.slice p2 l.length g2)).cell? ⟨w.heap.size, 2, none⟩ = some vd := (P0.other (by omega)).2.2
  have EB := Lib.hid B0; have EP := Lib.hid P0; have EQ := Lib.hid Q0; have ES := Lib.hid S0; have ER := Lib.hid R0; have ET := Lib.hid T0; have EO := Lib.hid O1; have EO2 := Lib.hid O2
  clear hb B0 P0 Q0 S0 R0 T0 O1 O2
  go_wp2_with fail
  clear k1 f1 c1
  have B0 : Below w.heap.size w (w2.setCell ⟨w.heap.size + 1 + 1, 1, none⟩ (.slice p2 l.length g2)) := EB.out.setCell (by show _ ≤ w.heap.size + 1 + 1; omega) _
  have P0 := EP.out.other (k := w.heap.size + 1 + 1) (i := 1) (v := .slice p2 l.length g2) (by omega)
  have Q0 := EQ.out.other (k := w.heap.size + 1 + 1) (i := 1) (v := .slice p2 l.length g2) (by omega)
  have R0 := ER.out.set1 (v := .slice p2 l.length g2)
  have S0 := ES.out.set (a := ⟨w.heap.size + 1 + 1, 1, none⟩) (v := .slice p2 l.length g2)
  have T0 := ET.out.set (a := ⟨w.heap.size + 1 + 1, 1, none⟩) (v := .slice p2 l.length g2)
  have O1 := OF_set EO.out (k := w.heap.size + 1 + 1) (i := 1) (by omega) (.slice p2 l.length g2)
  have O2 := OF_set EO2.out (k := w.heap.size + 1 + 1) (i := 1) (by omega) (.slice p2 l.length g2)
  have M2 := size_set w2 ⟨w.heap.size + 1 + 1, 1, none⟩ (.slice p2 l.length g2)
  clear EB EP EQ ES ER ET EO EO2
  generalize w2.setCell ⟨w.heap.size + 1 + 1, 1, none⟩ (.slice p2 l.length g2) = w2' at *
  refine (H3.out _ B0).mono ?_
  rintro e' w3 ⟨ud, rfl, O3, hb⟩
  replace B0 := below_step (Nat.le_refl _) B0 hb
  replace Q0 := Q0.below hb
  replace S0 := S0.below hb (by omega)
  replace R0 := R0.below hb
  replace T0 := T0.below hb (by omega)
  replace O1 := OF_below O1 hb
  replace O2 := OF_below O2 hb
  have N3 := hb.size
  obtain ⟨p3, g3, rfl, -, -⟩ := RF_of_own O3 (by have := L3.out; omega)
  have k1 : w3.cell? ⟨w.heap.size + 1 + 1, 2, none⟩ = some (.slice none 0 0) := R0.2.2
  have f1 : w3.frozen? ⟨w.heap.size + 1 + 1, 2, none⟩ = false := T0 2
  have EB := Lib.hid B0; have EQ := Lib.hid Q0; have ES := Lib.hid S0; have ER := Lib.hid R0; have ET := Lib.hid T0; have EO := Lib.hid O1; have EO2 := Lib.hid O2; have EO3 := Lib.hid O3
  clear hb B0 P0 Q0 S0 R0 T0 O1 O2 O3
  obtain ⟨a0, a1, a2⟩ : ProfAt (w3.setCell ⟨w.heap.size + 1 + 1, 2, none⟩ (.slice p3 d.length g3)) (w.heap.size + 1 + 1) (.slice p1 a.length g1) (.slice p2 l.length g2) (.slice p3 d.length g3) := ER.out.set2
  obtain ⟨b0, b1, b2⟩ : ProfAt (w3.setCell ⟨w.heap.size + 1 + 1, 2, none⟩ (.slice p3 d.length g3)) (w.heap.size + 1) (.slice none 0 0) (.slice none 0 0) (.slice none 0 0) := EQ.out.other (by omega)
  have z0 : w3.frozen? ⟨w.heap.size + 1, 0, none⟩ = false := ES.out 0
  have z1 : w3.frozen? ⟨w.heap.size + 1, 1, none⟩ = false := ES.out 1
  have z2 : w3.frozen? ⟨w.heap.size + 1, 2, none⟩ = false := ES.out 2
  go_wp2
  clear a0 a1 a2 b0 b1 b2 z0 z1 z2 k1 f1
  have Q9 := (((EQ.out.other (k := w.heap.size + 1 + 1) (i := 2) (v := .slice p3 d.length g3) (by omega)).set0 (v := .slice p1 a.length g1)).set1 (v := .slice p2 l.length g2)).set2 (v := .slice p3 d.length g3)
  have B9 : Below w.heap.size w ((((w3.setCell ⟨w.heap.size + 1 + 1, 2, none⟩ (.slice p3 d.length g3)).setCell ⟨w.heap.size + 1, 0, none⟩ (.slice p1 a.length g1)).setCell ⟨w.heap.size + 1, 1, none⟩ (.slice p2 l.length g2)).setCell ⟨w.heap.size + 1, 2, none⟩ (.slice p3 d.length g3)) :=
    (((EB.out.setCell (by show _ ≤ w.heap.size + 1 + 1; omega) _).setCell (by show _ ≤ w.heap.size + 1; omega) _).setCell (by show _ ≤ w.heap.size + 1; omega) _).setCell (by show _ ≤ w.heap.size + 1; omega) _
  have X1 := OF_set (OF_set (OF_set (OF_set EO.out (k := w.heap.size + 1 + 1) (i := 2) (by omega) (.slice p3 d.length g3)) (k := w.heap.size + 1) (i := 0) (by omega) (.slice p1 a.length g1)) (k := w.heap.size + 1) (i := 1) (by omega) (.slice p2 l.length g2)) (k := w.heap.size + 1) (i := 2) (by omega) (.slice p3 d.length g3)
  have X2 := OF_set (OF_set (OF_set (OF_set EO2.out (k := w.heap.size + 1 + 1) (i := 2) (by omega) (.slice p3 d.length g3)) (k := w.heap.size + 1) (i := 0) (by omega) (.slice p1 a.length g1)) (k := w.heap.size + 1) (i := 1) (by omega) (.slice p2 l.length g2)) (k := w.heap.size + 1) (i := 2) (by omega) (.slice p3 d.length g3)
  have X3 := OF_set (OF_set (OF_set (OF_set EO3.out (k := w.heap.size + 1 + 1) (i := 2) (by omega) (.slice p3 d.length g3)) (k := w.heap.size + 1) (i := 0) (by omega) (.slice p1 a.length g1)) (k := w.heap.size + 1) (i := 1) (by omega) (.slice p2 l.length g2)) (k := w.heap.size + 1) (i := 2) (by omega) (.slice p3 d.length g3)
  generalize ((((w3.setCell ⟨w.heap.size + 1 + 1, 2, none⟩ (.slice p3 d.length g3)).setCell ⟨w.heap.size + 1, 0, none⟩ (.slice p1 a.length g1)).setCell ⟨w.heap.size + 1, 1, none⟩ (.slice p2 l.length g2)).setCell ⟨w.heap.size + 1, 2, none⟩ (.slice p3 d.length g3)) = w9 at *
  obtain ⟨r0, r1, r2⟩ := Q9
  exact bodyPost_ret (v := profV (.slice p1 a.length g1) (.slice p2 l.length g2) (.slice p3 d.length g3)) (by simp [results, Try.results59, go_sem, *]) rfl ⟨_, _, _, rfl, OF_le X1 (by omega), OF_le X2 (by omega), OF_le X3 (by omega), B9⟩
theorem l_toProfile (va vl vd : Value) (a l d : List Nat) (w : World) (ha : RF w va a) (hl : RF w vl l) (hd : RF w vd d) (la : a.length ≤ 1048576) (ll : l.length ≤ 1048576) (ld : d.length ≤ 1048576) :
    Calls Try.prog 59 #[profV va vl vd] w fun e' w' => ∃ ua ul ud, e' = .returned (profV ua ul ud) ∧ RF w' ua a ∧ RF w' ul l ∧ RF w' ud d ∧ Below w.heap.size w w' :=
  (l_toProfileO va vl vd a l d w ha hl hd la ll ld).mono fun e' w' ⟨ua, ul, ud, he, h1, h2, h3, hb⟩ => ⟨ua, ul, ud, he, RF_of_own h1 (by omega), RF_of_own h2 (by omega), RF_of_own h3 (by omega), hb⟩
set_option maxHeartbeats 1000000 in
theorem l_eqProfile (va vl vd ua ul ud : Value) (a l d : List Nat) (w : World) (ha : RF w va a) (hl : RF w vl l) (hd : RF w vd d) (ka : RF w ua a) (kl : RF w ul l) (kd : RF w ud d) : Calls Try.prog 69 #[profV va vl vd, profV ua ul ud] w fun e' w' => e' = .returned (.bool true) ∧ Below w.heap.size w w' := by
  have hb : ∀ o o', Below w.heap.size w ((w.alloc o).alloc o') := fun o o' => below_alloc (Nat.le_refl _) (below_alloc (Nat.le_refl _) (Below.refl _ _) _) _
  have H1 := Lib.hid (fun W (hb : Below w.heap.size w W) => l_eqFloat32S va ua a a W (RF_below ha hb) (RF_below ka hb) (FEq.refl _))
  have H2 := Lib.hid (fun W (hb : Below w.heap.size w W) => l_eqFloat32S vl ul l l W (RF_below hl hb) (RF_below kl hb) (FEq.refl _))
  have H3 := Lib.hid (fun W (hb : Below w.heap.size w W) => l_eqFloat32S vd ud d d W (RF_below hd hb) (RF_below kd hb) (FEq.refl _))
  go_enter Try.func69, Try.ntmps69
  go_wp2_with fail
  refine (H1.out _ (by repeat (first | exact Below.refl _ _ | assumption | refine below_drewN ?_ _ | refine below_alloc (Nat.le_refl _) ?_ _ | (refine Below.setCell ?_ (by first | exact Nat.le_refl _ | (simp; done) | (simp; omega) | omega) _) | (refine below_step (Nat.le_refl _) ?_ (by assumption))))).mono ?_
  rintro e w1 ⟨rfl, n1, rfl⟩
  go_wp2_with fail
  refine (H2.out _ (by repeat (first | exact Below.refl _ _ | assumption | refine below_drewN ?_ _ | refine below_alloc (Nat.le_refl _) ?_ _ | (refine Below.setCell ?_ (by first | exact Nat.le_refl _ | (simp; done) | (simp; omega) | omega) _) | (refine below_step (Nat.le_refl _) ?_ (by assumption))))).mono ?_
  rintro e w1 ⟨rfl, n2, rfl⟩
  go_wp2_with fail
  refine (H3.out _ (by repeat (first | exact Below.refl _ _ | assumption | refine below_drewN ?_ _ | refine below_alloc (Nat.le_refl _) ?_ _ | (refine Below.setCell ?_ (by first | exact Nat.le_refl _ | (simp; done) | (simp; omega) | omega) _) | (refine below_step (Nat.le_refl _) ?_ (by assumption))))).mono ?_
  rintro e w1 ⟨rfl, n3, rfl⟩
  go_wp2
  go_ret
  exact ⟨rfl, (by repeat (first | exact Below.refl _ _ | assumption | refine below_drewN ?_ _ | refine below_alloc (Nat.le_refl _) ?_ _ | (refine Below.setCell ?_ (by first | exact Nat.le_refl _ | (simp; done) | (simp; omega) | omega) _) | (refine below_step (Nat.le_refl _) ?_ (by assumption))))⟩
end Go.Proofs.Ytglfjanclopipaa
