/- Walks: the text of a profile, both. -/
import Derived.Test.YtpkkgfjjnggijaaDoorKB

namespace Go.Proofs.YtpkkgfjjnggijaaDoor
set_option linter.unusedSimpArgs false
set_option linter.unusedVariables false
open Go.RowKit Go.Fl Go.Lib

theorem profLen_of {a l d : List Nat} (h : profOk a l d = true) : a.length ≤ 24 ∧ l.length ≤ 24 ∧ d.length ≤ 24 := by
  unfold profOk profLen at h
  simp only [Bool.and_eq_true, decide_eq_true_eq] at h
  omega
/-- A slice of numbers as it came in: its length alone. -/
def RFn (v : Value) (n : Nat) : Prop := ∃ p c, v = .slice p n c ∧ n ≤ 9223372036854775807
theorem ne_addr {g k i j : Nat} (h : g ≠ k) : (⟨k, i, none⟩ : Addr) ≠ ⟨g, j, none⟩ := fun e => h (by cases e; rfl)
theorem ProfAt.other {w : World} {g k i : Nat} {x y z v : Value} (h : ProfAt w g x y z) (hk : g ≠ k) : ProfAt (w.setCell ⟨k, i, none⟩ v) g x y z := by
  obtain ⟨h0, h1, h2⟩ := h
  exact ⟨(World.cell?_setCell_other _ _ _ _ (ne_addr hk)).trans h0, (World.cell?_setCell_other _ _ _ _ (ne_addr hk)).trans h1, (World.cell?_setCell_other _ _ _ _ (ne_addr hk)).trans h2⟩
theorem off_ne {k i j : Nat} (h : i ≠ j) : (⟨k, i, none⟩ : Addr) ≠ ⟨k, j, none⟩ := fun e => h (by cases e; rfl)
theorem ProfAt.set0 {w : World} {k : Nat} {x y z v : Value} (h : ProfAt w k x y z) : ProfAt (w.setCell ⟨k, 0, none⟩ v) k v y z := by
  obtain ⟨h0, h1, h2⟩ := h
  exact ⟨World.cell?_setCell_same _ _ _ h0, (World.cell?_setCell_other _ _ _ _ (off_ne (by decide))).trans h1, (World.cell?_setCell_other _ _ _ _ (off_ne (by decide))).trans h2⟩
theorem ProfAt.set1 {w : World} {k : Nat} {x y z v : Value} (h : ProfAt w k x y z) : ProfAt (w.setCell ⟨k, 1, none⟩ v) k x v z := by
  obtain ⟨h0, h1, h2⟩ := h
  exact ⟨(World.cell?_setCell_other _ _ _ _ (off_ne (by decide))).trans h0, World.cell?_setCell_same _ _ _ h1, (World.cell?_setCell_other _ _ _ _ (off_ne (by decide))).trans h2⟩
theorem ProfAt.set2 {w : World} {k : Nat} {x y z v : Value} (h : ProfAt w k x y z) : ProfAt (w.setCell ⟨k, 2, none⟩ v) k x y v := by
  obtain ⟨h0, h1, h2⟩ := h
  exact ⟨(World.cell?_setCell_other _ _ _ _ (off_ne (by decide))).trans h0, (World.cell?_setCell_other _ _ _ _ (off_ne (by decide))).trans h1, World.cell?_setCell_same _ _ _ h2⟩
/-- Blocks that no one has frozen. -/
def Soft (w : World) (g : Nat) : Prop := ∀ j, w.frozen? ⟨g, j, none⟩ = false
theorem Soft.set {w : World} {g : Nat} {a : Addr} {v : Value} (h : Soft w g) : Soft (w.setCell a v) g := fun j => (World.frozen?_setCell ..).trans (h j)
theorem Soft.below {w w' : World} {g : Nat} (h : Soft w g) (hb : Below w.heap.size w w') (hg : g < w.heap.size) : Soft w' g := fun j => (hb.frozen (p := ⟨g, j, none⟩) hg).trans (h j)
theorem soft_top (w : World) (k : Nat) (hk : k = w.heap.size) (cs : Array Value) (t : TypeId) : Soft (w.alloc (.cells cs t)) k := by
  subst hk
  have e : (w.alloc (.cells cs t)).heap[w.heap.size]? = some (.cells cs t) := heap_alloc_new w _
  intro j
  simp only [World.frozen?, e]
  simp
theorem OF_set {B : Nat} {w : World} {v : Value} {xs : List Nat} (h : OF B w v xs) {k i : Nat} (hk : k < B) (u : Value) : OF B (w.setCell ⟨k, i, none⟩ u) v xs := ownsRow_setCell_below h hk u
theorem OF_le {B B' : Nat} {w : World} {v : Value} {xs : List Nat} (h : OF B w v xs) (hb : B' ≤ B) : OF B' w v xs :=
  ⟨h.1, h.2.imp id fun ⟨g, cap, cur, e, hb1, r⟩ => ⟨g, cap, cur, e, Nat.le_trans hb hb1, r⟩⟩
theorem size_set (w : World) (a : Addr) (v : Value) : (w.setCell a v).heap.size = w.heap.size := by simp
set_option maxHeartbeats 1000000 in
theorem l_eqProfile (va vl vd ua ul ud : Value) (a l d : List Nat) (w : World) (ha : RF w va a) (hl : RF w vl l) (hd : RF w vd d) (ka : RF w ua a) (kl : RF w ul l) (kd : RF w ud d) : Calls Tryd.prog 11 #[profV va vl vd, profV ua ul ud] w fun e' w' => e' = .returned (.bool true) ∧ Below w.heap.size w w' := by
  have hb : ∀ o o', Below w.heap.size w ((w.alloc o).alloc o') := fun o o' => below_alloc (Nat.le_refl _) (below_alloc (Nat.le_refl _) (Below.refl _ _) _) _
  have H1 := Lib.hid (fun W (hb : Below w.heap.size w W) => l_eqFloat32S va ua a a W (RF_below ha hb) (RF_below ka hb) (FEq.refl _))
  have H2 := Lib.hid (fun W (hb : Below w.heap.size w W) => l_eqFloat32S vl ul l l W (RF_below hl hb) (RF_below kl hb) (FEq.refl _))
  have H3 := Lib.hid (fun W (hb : Below w.heap.size w W) => l_eqFloat32S vd ud d d W (RF_below hd hb) (RF_below kd hb) (FEq.refl _))
  go_enter Tryd.func11, Tryd.ntmps11
  go_wp2_with fail
  refine (H1.out _ (by repeat (first | exact Below.refl _ _ | assumption | refine below_drewN ?_ _ | refine below_alloc (Nat.le_refl _) ?_ _ | (refine Below.setCell ?_ (by first | exact Nat.le_refl _ | (simp; done) | (simp; omega) | omega) _) | (refine below_step (Nat.le_refl _) ?_ (by assumption))))).mono ?_
  rintro e w1 ⟨rfl, n1, rfl⟩
  go_wp2_with fail
  refine (H2.out _ (by repeat (first | exact Below.refl _ _ | assumption | refine below_drewN ?_ _ | refine below_alloc (Nat.le_refl _) ?_ _ | (refine Below.setCell ?_ (by first | exact Nat.le_refl _ | (simp; done) | (simp; omega) | omega) _) | (refine below_step (Nat.le_refl _) ?_ (by assumption))))).mono ?_
  rintro e w1 ⟨rfl, n2, rfl⟩
  go_wp2_with fail
  refine (H3.out _ (by repeat (first | exact Below.refl _ _ | assumption | refine below_drewN ?_ _ | refine below_alloc (Nat.le_refl _) ?_ _ | (refine Below.setCell ?_ (by first | exact Nat.le_refl _ | (simp; done) | (simp; omega) | omega) _) | (refine below_step (Nat.le_refl _) ?_ (by assumption))))).mono ?_
  rintro e w1 ⟨rfl, n3, rfl⟩
  go_wp2
  go_ret
  exact ⟨rfl, (by repeat (first | exact Below.refl _ _ | assumption | refine below_drewN ?_ _ | refine below_alloc (Nat.le_refl _) ?_ _ | (refine Below.setCell ?_ (by first | exact Nat.le_refl _ | (simp; done) | (simp; omega) | omega) _) | (refine below_step (Nat.le_refl _) ?_ (by assumption))))⟩
end Go.Proofs.YtpkkgfjjnggijaaDoor
