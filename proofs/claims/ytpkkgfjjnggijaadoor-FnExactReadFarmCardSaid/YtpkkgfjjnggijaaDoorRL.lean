/- Walks: profiles marked, and held against their marks. -/
import Derived.Test.YtpkkgfjjnggijaaDoorRK
import Derived.Deep.AppendLies
namespace Go.Proofs.YtpkkgfjjnggijaaDoor
set_option linter.unusedSimpArgs false
set_option linter.unusedVariables false
open Go.RowKit Go.Fl Go.Tx Go.Lib

/-- Only blocks that these slices own are other ones, or new. -/
structure Far (us : List Value) (w w' : World) : Prop where
  os : w'.os = w.os
  tape : w'.tape = w.tape
  output : w'.output = w.output
  size : w.heap.size ≤ w'.heap.size
  block : ∀ k, k < w.heap.size → (∀ u ∈ us, u.ownBlock ≠ some k) → w'.heap[k]? = w.heap[k]?
theorem Far.refl (us : List Value) (w : World) : Far us w w := ⟨rfl, rfl, rfl, Nat.le_refl _, fun _ _ _ => rfl⟩
theorem Far.trans {us : List Value} {w w1 w2 : World} (h : Far us w w1) (k : Far us w1 w2) : Far us w w2 :=
  ⟨k.os.trans h.os, k.tape.trans h.tape, k.output.trans h.output, Nat.le_trans h.size k.size, fun i hi ho => (k.block i (Nat.lt_of_lt_of_le hi h.size) ho).trans (h.block i hi ho)⟩
theorem Far.of_grown {us : List Value} {u : Value} {w w' : World} (h : w.grownBy w' u.ownBlock) (hu : u ∈ us) : Far us w w' :=
  ⟨h.os, h.tape, h.output, h.size, fun i hi ho => h.block i hi fun e => ho u hu e.symm⟩
theorem Far.of_below {us : List Value} {w w' : World} (h : Below w.heap.size w w') : Far us w w' :=
  ⟨h.os, h.tape, h.output, h.size, fun i hi _ => h.block i hi⟩
theorem Far.below {us : List Value} {w w' : World} {B : Nat} (h : Far us w w') (hw : B ≤ w.heap.size) (hu : ∀ u ∈ us, ∀ k, u.ownBlock = some k → B ≤ k) : Below B w w' :=
  ⟨h.os, h.tape, h.output, h.size, fun i hi => h.block i (by omega) fun u hm e => by have := hu u hm i e; omega⟩
theorem Far.cell {us : List Value} {w w' : World} (h : Far us w w') {g i : Nat} {v : Value} (hc : w.cell? ⟨g, i, none⟩ = some v) (hu : ∀ u ∈ us, u.ownBlock ≠ some g) : w'.cell? ⟨g, i, none⟩ = some v :=
  (World.cell?_of_block (w := w) (h.block g (block_lt_of_cell hc) hu)).trans hc
theorem Far.own {us : List Value} {w w' : World} {B : Nat} {v : Value} {n : Nat} {cs : List Value} {e : TypeId} {s : Nat} (h : Far us w w') (ho : w.ownsRow B e s v n cs) (hv : ∀ u ∈ us, Dis u v) : w'.ownsRow B e s v n cs := by
  obtain ⟨hlen, hc⟩ := id ho
  refine ⟨hlen, ?_⟩
  rcases hc with hc | ⟨g, cap, cur, rfl, hB, hg, rest⟩
  · exact .inl hc
  · exact .inr ⟨g, cap, cur, rfl, hB, (h.block g (World.ownsRow.lt ho g rfl).2 fun u hm e => hv u hm g e rfl).trans hg, rest⟩
theorem Far.parts {us : List Value} {w w' : World} {B : Nat} (h : Far us w w') : ∀ {vs : List Value} {xs : List (List Nat)}, Parts B w vs xs → (∀ u ∈ us, ∀ v ∈ vs, Dis u v) → Parts B w' vs xs
  | [], [], _, _ => trivial
  | v :: vs, x :: xs, hp, hd => ⟨h.own hp.1 fun u hu => hd u hu v (by simp), hp.2.1, Far.parts h hp.2.2 fun u hu v hv => hd u hu v (by simp [hv])⟩
  | [], _ :: _, hp, _ => hp.elim
  | _ :: _, [], hp, _ => hp.elim
/-- The marks that three lists bear. -/
def marks3 (na nl nd k : Nat) : List (List Nat) := [marks na k, marks nl (k + na), marks nd (k + na + nl)]
set_option maxHeartbeats 1000000 in
theorem l_markProfile (va vl vd : Value) (a l d : List Nat) (k0 : Nat) (B : Nat) (w : World) (hp : Parts B w [va, vl, vd] [a, l, d]) (la : a.length ≤ 1000) (ll : l.length ≤ 1000) (ld : d.length ≤ 1000) (hk : k0 ≤ 1000) :
    Calls Tryd.prog 12 #[profV va vl vd, .int .i64 (k0 : Int)] w fun e w' => e = .returned (.int .i64 ((k0 + a.length + l.length + d.length : Nat) : Int)) ∧ Parts B w' [va, vl, vd] (marks3 a.length l.length d.length k0) ∧ Far [va, vl, vd] w w' := by
  have HP := Lib.hid hp
  have HL := Lib.hid (show a.length ≤ 1000 ∧ l.length ≤ 1000 ∧ d.length ≤ 1000 ∧ k0 ≤ 1000 from ⟨la, ll, ld, hk⟩)
  have HD01 : Hid (Dis va vl) := hp.2.1 vl (by simp)
  have HD02 : Hid (Dis va vd) := hp.2.1 vd (by simp)
  have HD12 : Hid (Dis vl vd) := hp.2.2.2.1 vd (by simp)
  obtain ⟨q0, e0, hv0, -, -⟩ := RF_of_own hp.1 (by omega)
  obtain ⟨q1, e1, hv1, -, -⟩ := RF_of_own hp.2.2.1 (by omega)
  obtain ⟨q2, e2, hv2, -, -⟩ := RF_of_own hp.2.2.2.2.1 (by omega)
  clear hp la ll ld hk
  have HN : Hid (∀ u ∈ [va, vl, vd], u.ownBlock ≠ some w.heap.size) := fun u hu e => by
    have := (Parts.lt HP.out u hu _ e).2; omega
  subst hv0 hv1 hv2
  go_enter Tryd.func12, Tryd.ntmps12
  go_wp2_with fail
  obtain ⟨w1, hw1⟩ : ∃ w1, w1 = w.alloc (.cells #[.slice q0 a.length e0, .slice q1 l.length e1, .slice q2 d.length e2] 31) := ⟨_, rfl⟩
  have HB : Hid (Below w.heap.size w w1) := by rw [hw1]; exact (by repeat (first | exact Below.refl _ _ | assumption | refine below_drewN ?_ _ | refine below_alloc (Nat.le_refl _) ?_ _ | (refine Below.setCell ?_ (by first | exact Nat.le_refl _ | (simp; done) | (simp; omega) | omega) _) | (refine below_step (Nat.le_refl _) ?_ (by assumption))))
  have HA : Hid (ProfAt w1 w.heap.size (.slice q0 a.length e0) (.slice q1 l.length e1) (.slice q2 d.length e2)) := by rw [hw1]; exact prof_top w _ rfl _ _ _ _
  rw [← hw1]
  clear hw1
  have HP1 := Lib.hid (HP.out.below HB.out)
  have F1 : Hid (Far [.slice q0 a.length e0, .slice q1 l.length e1, .slice q2 d.length e2] w w1) := Far.of_below HB.out
  clear HB HP
  generalize w.heap.size = g at *
  refine (l_markFloat32S _ a k0 _ rfl B w1 HP1.out.1 (by have := HL.out; omega) (by have := HL.out; omega)).mono ?_
  rintro e' w2 ⟨rfl, h0, hg⟩
  have OM0 := Lib.hid h0
  have F2 := Lib.hid (F1.out.trans (Far.of_grown hg (by simp)))
  have O1 := Lib.hid (kept_dis HP1.out.2.2.1 hg HD01.out)
  have O2 := Lib.hid (kept_dis HP1.out.2.2.2.2.1 hg HD02.out)
  have HA2 : Hid (ProfAt w2 g (.slice q0 a.length e0) (.slice q1 l.length e1) (.slice q2 d.length e2)) := ⟨(Far.of_grown hg (by simp)).cell HA.out.1 HN.out, (Far.of_grown hg (by simp)).cell HA.out.2.1 HN.out, (Far.of_grown hg (by simp)).cell HA.out.2.2 HN.out⟩
  obtain ⟨-, c1, -⟩ := HA2.out
  clear h0 hg HA F1 HP1
  go_wp2_with fail
  refine (l_markFloat32S _ l (k0 + a.length) _ rfl B w2 O1.out (by have := HL.out; omega) (by have := HL.out; omega)).mono ?_
  rintro e' w3 ⟨rfl, h1, hg⟩
  have OM1 := Lib.hid h1
  have F3 := Lib.hid (F2.out.trans (Far.of_grown hg (by simp)))
  replace OM0 := Lib.hid (kept_dis OM0.out hg HD01.out.symm)
  replace O2 := Lib.hid (kept_dis O2.out hg HD12.out)
  have HA3 : Hid (ProfAt w3 g (.slice q0 a.length e0) (.slice q1 l.length e1) (.slice q2 d.length e2)) := ⟨(Far.of_grown hg (by simp)).cell HA2.out.1 HN.out, (Far.of_grown hg (by simp)).cell HA2.out.2.1 HN.out, (Far.of_grown hg (by simp)).cell HA2.out.2.2 HN.out⟩
  obtain ⟨-, -, c2⟩ := HA3.out
  clear h1 hg HA2 F2 O1 c1
  go_wp2_with fail
  refine (l_markFloat32S _ d (k0 + a.length + l.length) _ rfl B w3 O2.out (by have := HL.out; omega) (by have := HL.out; omega)).mono ?_
  rintro e' w4 ⟨rfl, h2, hg⟩
  have OM2 := Lib.hid h2
  have F4 := Lib.hid (F3.out.trans (Far.of_grown hg (by simp)))
  replace OM0 := Lib.hid (kept_dis OM0.out hg HD02.out.symm)
  replace OM1 := Lib.hid (kept_dis OM1.out hg HD12.out.symm)
  clear h2 hg HA3 F3 O2 c2
  go_wp2
  go_ret
  refine ⟨rfl, ⟨OM0.out, ?_, OM1.out, ?_, OM2.out, fun u hu => by simp at hu, trivial⟩, F4.out⟩
  · intro u hu
    rcases List.mem_cons.1 hu with rfl | hu
    · exact HD01.out
    · obtain rfl := List.mem_singleton.1 hu
      exact HD02.out
  · intro u hu
    obtain rfl := List.mem_singleton.1 hu
    exact HD12.out
set_option maxHeartbeats 1000000 in
theorem l_heldProfile (va vl vd : Value) (na nl nd : Nat) (k0 : Nat) (w : World) (h0 : RF w va (marks na k0)) (h1 : RF w vl (marks nl (k0 + na))) (h2 : RF w vd (marks nd (k0 + na + nl))) (la : na ≤ 1000) (ll : nl ≤ 1000) (ld : nd ≤ 1000) (hk : k0 ≤ 1000) :
    Calls Tryd.prog 13 #[profV va vl vd, .int .i64 (k0 : Int)] w fun e w' => e = .returned (.int .i64 ((k0 + na + nl + nd : Nat) : Int)) ∧ Below w.heap.size w w' := by
  have H0 := Lib.hid (fun W (hb : Below w.heap.size w W) => l_heldFloat32S va na k0 (k0 : Int) rfl W (RF_below h0 hb) (by omega) (by omega))
  have H1 := Lib.hid (fun W (hb : Below w.heap.size w W) => l_heldFloat32S vl nl (k0 + na) ((k0 + na : Nat) : Int) rfl W (RF_below h1 hb) (by omega) (by omega))
  have H2 := Lib.hid (fun W (hb : Below w.heap.size w W) => l_heldFloat32S vd nd (k0 + na + nl) ((k0 + na + nl : Nat) : Int) rfl W (RF_below h2 hb) (by omega) (by omega))
  clear h0 h1 h2 la ll ld hk
  have n0 : ¬ (((k0 + na : Nat) : Int) < 0) := by omega
  have n1 : ¬ (((k0 + na + nl : Nat) : Int) < 0) := by omega
  have n2 : ¬ (((k0 + na + nl + nd : Nat) : Int) < 0) := by omega
  go_enter Tryd.func13, Tryd.ntmps13
  go_wp2_with fail
  refine (H0.out _ (by repeat (first | exact Below.refl _ _ | assumption | refine below_drewN ?_ _ | refine below_alloc (Nat.le_refl _) ?_ _ | (refine Below.setCell ?_ (by first | exact Nat.le_refl _ | (simp; done) | (simp; omega) | omega) _) | (refine below_step (Nat.le_refl _) ?_ (by assumption))))).mono ?_
  rintro e w1 ⟨rfl, m0, rfl⟩
  go_wp2_with fail
  refine (H1.out _ (by repeat (first | exact Below.refl _ _ | assumption | refine below_drewN ?_ _ | refine below_alloc (Nat.le_refl _) ?_ _ | (refine Below.setCell ?_ (by first | exact Nat.le_refl _ | (simp; done) | (simp; omega) | omega) _) | (refine below_step (Nat.le_refl _) ?_ (by assumption))))).mono ?_
  rintro e w1 ⟨rfl, m1, rfl⟩
  go_wp2_with fail
  refine (H2.out _ (by repeat (first | exact Below.refl _ _ | assumption | refine below_drewN ?_ _ | refine below_alloc (Nat.le_refl _) ?_ _ | (refine Below.setCell ?_ (by first | exact Nat.le_refl _ | (simp; done) | (simp; omega) | omega) _) | (refine below_step (Nat.le_refl _) ?_ (by assumption))))).mono ?_
  rintro e w1 ⟨rfl, m2, rfl⟩
  go_wp2
  go_ret
  exact ⟨rfl, (by repeat (first | exact Below.refl _ _ | assumption | refine below_drewN ?_ _ | refine below_alloc (Nat.le_refl _) ?_ _ | (refine Below.setCell ?_ (by first | exact Nat.le_refl _ | (simp; done) | (simp; omega) | omega) _) | (refine below_step (Nat.le_refl _) ?_ (by assumption))))⟩
end Go.Proofs.YtpkkgfjjnggijaaDoor
