/- For every input the law FnExactWorstLoads answers true. -/
import Derived.Test.YtmpajgpnbiaoiaaWD
import Derived.Test.YtmpajgpnbiaoiaaP
namespace Go.Proofs.Ytmpajgpnbiaoiaa
set_option linter.unusedSimpArgs false
set_option linter.unusedVariables false
open Go.ChangeShapes Go.WideShapes Go.ChangeAt Go.RowKit Go.Joins Go.Deep Go.Fl

theorem wres_len (xss : List (List Nat)) : (wres xss).1.length ≤ 64 ∧ (wres xss).2.length ≤ 64 := by
  unfold wres
  split
  · rename_i h
    unfold wGood at h
    simp only [Bool.and_eq_true, decide_eq_true_eq, List.all_eq_true] at h
    have h0 : 0 < xss.length := by omega
    obtain ⟨-, -, h3⟩ := row_facts (x0 := rowAt xss 0) rfl h0 (fun j hj => h.2 _ (List.getElem_mem hj))
    obtain ⟨e1, e2⟩ := wall_len xss (rowAt xss 0).length rfl xss.length
    omega
  · simp
/-- A step on: what is below, told of the first world. -/
theorem step1 {w w1 w2 : World} (h : Below w.heap.size w w1) (hb : Below w1.heap.size w1 w2) : Below w.heap.size w w2 := below_step (Nat.le_refl _) h hb
theorem quiet1 {w w' : World} (h : ∃ n, w' = w.drewN n) : Below w.heap.size w w' := by
  obtain ⟨n, rfl⟩ := h
  exact below_drewN (Below.refl _ _) n
set_option maxHeartbeats 4000000 in
theorem l_FnExactWorstLoads (v : Value) (us : List Value) (xss : List (List Nat)) (w : World) (hx : RFFw w v us xss) : Calls Try.prog 5 #[v] w fun e w' => e = .returned (.bool true) ∧ Below w.heap.size w w' := by
  have HXw := Lib.hid hx
  clear hx
  go_enter Try.func5, Try.ntmps5
  go_wp2_with fail
  refine (l_szFloat32SS v us xss _ HXw.out).mono ?_
  rintro e w' ⟨⟨r, rfl, hr⟩, n0, rfl⟩
  by_cases hneg : r < 0
  · clear hr
    go_wp2
    go_ret
    exact ⟨rfl, (by repeat (first | exact Below.refl _ _ | assumption | refine below_drewN ?_ _ | refine below_alloc (Nat.le_refl _) ?_ _ | (refine Below.setCell ?_ (by first | exact Nat.le_refl _ | (simp; done) | (simp; omega) | omega) _) | (refine below_step (Nat.le_refl _) ?_ (by assumption))))⟩
  obtain ⟨hl, htot, hi⟩ := hr (by omega)
  have HX : Hid (RFF w v us xss) := RFF_of_w HXw.out hl hi
  have HI := Lib.hid hi
  have HT := Lib.hid htot
  obtain ⟨hw1, hw2⟩ := wres_len xss
  have HUL : Hid (us.length = xss.length) := HX.out.2.1
  have BB : Hid (Below w.heap.size w (w.drewN n0)) := below_drewN (Below.refl _ _) _
  clear hr hi htot
  go_wp2_with fail
  refine (l_toFloat32SS v us xss _ (RFF_below HX.out BB.out) hl HI.out).mono ?_
  rintro e w1 ⟨u1, vs1, rfl, P1, hb⟩
  replace BB := Lib.hid (step1 BB.out hb)
  have R1 := Lib.hid (P1.read (by have := P1.len; have := HUL.out; omega) HI.out)
  clear hb P1
  go_wp2_with fail
  refine (s_WorstLoads u1 vs1 xss _ R1.out).mono ?_
  rintro e w2 ⟨u4, u5, rfl, O4, O5, D45, hb⟩
  replace BB := Lib.hid (step1 BB.out hb)
  replace O4 := Lib.hid O4
  replace O5 := Lib.hid O5
  replace D45 := Lib.hid D45
  have S4 := Lib.hid (show ∀ k, u4.ownBlock = some k → k < w2.heap.size from fun k hk => (World.ownsRow.lt O4.out k hk).2)
  have S5 := Lib.hid (show ∀ k, u5.ownBlock = some k → k < w2.heap.size from fun k hk => (World.ownsRow.lt O5.out k hk).2)
  have BB2 := BB
  clear hb R1
  go_wp2_with fail
  refine (l_toFloat32SS v us xss _ (RFF_below HX.out BB.out) hl HI.out).mono ?_
  rintro e w3 ⟨u7, vs7, rfl, P7, hb⟩
  replace BB := Lib.hid (step1 BB.out hb)
  replace O4 := Lib.hid (OF_below O4.out hb)
  replace O5 := Lib.hid (OI_below O5.out hb)
  have hvl : vs7.length ≤ 1048576 := by have := P7.len; have := HUL.out; omega
  have HVL : Hid (vs7.length = us.length) := by have := P7.len; have := HUL.out; show _ = _; omega
  replace P7 := Lib.hid P7
  clear hb
  have R7 := Lib.hid (P7.out.read hvl HI.out)
  go_wp2_with fail
  refine (i_WorstLoads u7 vs7 xss _ R7.out).mono ?_
  rintro e w4 ⟨u8, u9, rfl, O8, O9, D89, hb⟩
  have D48 := Lib.hid (dis_of O4.out (Nat.le_refl _) O8)
  have D49 := Lib.hid (dis_of O4.out (Nat.le_refl _) O9)
  have D58 := Lib.hid (dis_of O5.out (Nat.le_refl _) O8)
  have D59 := Lib.hid (dis_of O5.out (Nat.le_refl _) O9)
  have S8 := Lib.hid (show ∀ k, u8.ownBlock = some k → w3.heap.size ≤ k from fun k hk => (World.ownsRow.lt O8 k hk).1)
  have S9 := Lib.hid (show ∀ k, u9.ownBlock = some k → w3.heap.size ≤ k from fun k hk => (World.ownsRow.lt O9 k hk).1)
  have BW3 := BB
  replace BB := Lib.hid (step1 BB.out hb)
  replace O4 := Lib.hid (OF_below O4.out hb)
  replace O5 := Lib.hid (OI_below O5.out hb)
  replace P7 := Lib.hid (P7.out.below hb)
  replace O8 := Lib.hid O8
  replace O9 := Lib.hid O9
  replace D89 := Lib.hid D89
  clear hb R7
  have HEQ1 := Lib.hid (fun (wX : World) (h1 : OF w3.heap.size wX u8 (wres xss).1) (h2 : OF w1.heap.size wX u4 (wres xss).1) => l_eqFloat32S u8 u4 _ _ wX (RF_of_own h1 (by omega)) (RF_of_own h2 (by omega)) (FEq.refl _))
  have HEQ2 := Lib.hid (fun (wX : World) (h1 : OI w3.heap.size wX u9 (wres xss).2) (h2 : OI w1.heap.size wX u5 (wres xss).2) => l_eqInt64S u9 u5 _ wX (RI_of_own h1 (by omega)) (RI_of_own h2 (by omega)))
  go_wp2_with fail
  refine (HEQ1.out _ O8.out O4.out).mono ?_
  rintro e w' ⟨rfl, hn⟩
  have hb := quiet1 hn; clear hn; replace BB := Lib.hid (step1 BB.out hb); replace O4 := Lib.hid (OF_below O4.out hb); replace O5 := Lib.hid (OI_below O5.out hb); replace O8 := Lib.hid (OF_below O8.out hb); replace O9 := Lib.hid (OI_below O9.out hb); replace P7 := Lib.hid (P7.out.below hb); clear hb
  go_wp2_with fail
  refine (HEQ2.out _ O9.out O5.out).mono ?_
  rintro e w' ⟨rfl, hn⟩
  have hb := quiet1 hn; clear hn; replace BB := Lib.hid (step1 BB.out hb); replace O4 := Lib.hid (OF_below O4.out hb); replace O5 := Lib.hid (OI_below O5.out hb); replace O8 := Lib.hid (OF_below O8.out hb); replace O9 := Lib.hid (OI_below O9.out hb); replace P7 := Lib.hid (P7.out.below hb); clear hb
  go_wp2_with fail
  refine (l_toFloat32SS v us xss _ (RFF_below HX.out BB.out) hl HI.out).mono ?_
  rintro e w' ⟨uc, vsc, rfl, Pc, hb⟩
  replace BB := Lib.hid (step1 BB.out hb); replace O4 := Lib.hid (OF_below O4.out hb); replace O5 := Lib.hid (OI_below O5.out hb); replace O8 := Lib.hid (OF_below O8.out hb); replace O9 := Lib.hid (OI_below O9.out hb); replace P7 := Lib.hid (P7.out.below hb); clear hb
  have Rc := Lib.hid (Pc.read (by have := Pc.len; have := HUL.out; omega) HI.out)
  clear Pc
  go_wp2_with fail
  refine (l_eqFloat32SS u7 uc vs7 vsc xss _ (P7.out.read hvl HI.out) Rc.out).mono ?_
  rintro e w' ⟨rfl, hn⟩
  clear Rc
  have hb := quiet1 hn; clear hn; replace BB := Lib.hid (step1 BB.out hb); replace O4 := Lib.hid (OF_below O4.out hb); replace O5 := Lib.hid (OI_below O5.out hb); replace O8 := Lib.hid (OF_below O8.out hb); replace O9 := Lib.hid (OI_below O9.out hb); replace P7 := Lib.hid (P7.out.below hb); clear hb
  go_wp2_with fail
  refine (l_markFloat32SS u7 vs7 xss w2.heap.size w3.heap.size _ P7.out hvl HI.out (by rw [HVL.out]; exact HT.out)).mono ?_
  rintro e w' ⟨rfl, hon⟩
  replace O4 := Lib.hid (hon.own O4.out fun k hk => .inl (S4.out k hk))
  replace O5 := Lib.hid (hon.own O5.out fun k hk => .inl (S5.out k hk))
  replace O8 := Lib.hid (hon.own O8.out fun k hk => .inr (S8.out k hk))
  replace O9 := Lib.hid (hon.own O9.out fun k hk => .inr (S9.out k hk))
  replace BB := Lib.hid (Below.trans BB.out (hon.below (B := w.heap.size) BB2.out.size BB.out.size))
  clear hon P7
  generalize totL xss vs7.length = tot at *
  go_wp2_with fail
  refine (HEQ1.out _ O8.out O4.out).mono ?_
  rintro e w' ⟨rfl, hn⟩
  have hb := quiet1 hn; clear hn; replace BB := Lib.hid (step1 BB.out hb); replace O4 := Lib.hid (OF_below O4.out hb); replace O5 := Lib.hid (OI_below O5.out hb); replace O8 := Lib.hid (OF_below O8.out hb); replace O9 := Lib.hid (OI_below O9.out hb); clear hb
  go_wp2_with fail
  refine (HEQ2.out _ O9.out O5.out).mono ?_
  rintro e w' ⟨rfl, hn⟩
  have hb := quiet1 hn; clear hn; replace BB := Lib.hid (step1 BB.out hb); replace O4 := Lib.hid (OF_below O4.out hb); replace O5 := Lib.hid (OI_below O5.out hb); replace O8 := Lib.hid (OF_below O8.out hb); replace O9 := Lib.hid (OI_below O9.out hb); clear hb
  go_wp2_with fail
  refine (l_markFloat32S u8 _ 1 _ (by omega) _ _ O8.out (by omega) (by omega)).mono ?_
  rintro e w' ⟨rfl, M8, hg⟩
  replace O4 := Lib.hid (kept_dis O4.out hg (D48.out.symm))
  replace O5 := Lib.hid (kept_dis O5.out hg (D58.out.symm))
  replace O9 := Lib.hid (kept_dis O9.out hg D89.out)
  replace BB := Lib.hid (Below.trans BB.out (grown_below O8.out hg BB.out.size BW3.out.size))
  replace M8 := Lib.hid M8
  clear hg O8
  go_wp2_with fail
  refine (l_markInt64S u9 _ (1 + (wres xss).1.length) _ (by omega) _ _ O9.out (by omega) (by omega)).mono ?_
  rintro e w' ⟨rfl, M9, hg⟩
  replace O4 := Lib.hid (kept_dis O4.out hg (D49.out.symm))
  replace O5 := Lib.hid (kept_dis O5.out hg (D59.out.symm))
  replace M8 := Lib.hid (kept_dis M8.out hg D89.out.symm)
  replace BB := Lib.hid (Below.trans BB.out (grown_below O9.out hg BB.out.size BW3.out.size))
  replace M9 := Lib.hid M9
  clear hg O9
  have hml := marks_length (wres xss).1.length 1
  have hml2 := marksI_length (wres xss).2.length (1 + (wres xss).1.length)
  have HML := Lib.hid hml
  have HML2 := Lib.hid hml2
  clear hml hml2
  go_wp2_with fail
  refine (l_heldFloat32S u8 (wres xss).1.length 1 _ (by omega) _ (RF_of_own M8.out (by rw [HML.out]; omega)) (by omega) (by omega)).mono ?_
  rintro e w' ⟨rfl, hn⟩
  have hb := quiet1 hn; clear hn; replace BB := Lib.hid (step1 BB.out hb); replace O4 := Lib.hid (OF_below O4.out hb); replace O5 := Lib.hid (OI_below O5.out hb); replace M8 := Lib.hid (OF_below M8.out hb); replace M9 := Lib.hid (OI_below M9.out hb); clear hb
  go_wp2_with fail
  refine (l_heldInt64S u9 (wres xss).2.length (1 + (wres xss).1.length) _ (by omega) _ (RI_of_own M9.out (by rw [HML2.out]; omega)) (by omega) (by omega)).mono ?_
  rintro e w' ⟨rfl, hn⟩
  have hb := quiet1 hn; clear hn; replace BB := Lib.hid (step1 BB.out hb); replace O4 := Lib.hid (OF_below O4.out hb); replace O5 := Lib.hid (OI_below O5.out hb); replace M8 := Lib.hid (OF_below M8.out hb); replace M9 := Lib.hid (OI_below M9.out hb); clear hb
  go_wp2_with fail
  refine (l_toFloat32SS v us xss _ (RFF_below HX.out BB.out) hl HI.out).mono ?_
  rintro e w' ⟨ud, vsd, rfl, Pd, hb⟩
  replace BB := Lib.hid (step1 BB.out hb); replace O4 := Lib.hid (OF_below O4.out hb); replace O5 := Lib.hid (OI_below O5.out hb); replace M8 := Lib.hid (OF_below M8.out hb); replace M9 := Lib.hid (OI_below M9.out hb); clear hb
  have Rd := Lib.hid (Pd.read (by have := Pd.len; have := HUL.out; omega) HI.out)
  clear Pd
  go_wp2_with fail
  refine (i_WorstLoads ud vsd xss _ Rd.out).mono ?_
  rintro e w9 ⟨u14, u15, rfl, O14, O15, -, hb⟩
  replace BB := Lib.hid (step1 BB.out hb); replace O4 := Lib.hid (OF_below O4.out hb); replace O5 := Lib.hid (OI_below O5.out hb); replace M8 := Lib.hid (OF_below M8.out hb); replace M9 := Lib.hid (OI_below M9.out hb); clear hb
  have R14 := Lib.hid (RF_of_own O14 (by omega))
  have R15 := Lib.hid (RI_of_own O15 (by omega))
  clear Rd O14 O15
  go_wp2_with fail
  refine (l_eqFloat32S u14 u4 _ _ _ R14.out (RF_of_own O4.out (by omega)) (FEq.refl _)).mono ?_
  rintro e w' ⟨rfl, hn⟩
  replace R15 := Lib.hid (RI_below R15.out (quiet1 hn))
  clear R14
  have hb := quiet1 hn; clear hn; replace BB := Lib.hid (step1 BB.out hb); replace O4 := Lib.hid (OF_below O4.out hb); replace O5 := Lib.hid (OI_below O5.out hb); replace M8 := Lib.hid (OF_below M8.out hb); replace M9 := Lib.hid (OI_below M9.out hb); clear hb
  go_wp2_with fail
  refine (l_eqInt64S u15 u5 _ _ R15.out (RI_of_own O5.out (by omega))).mono ?_
  rintro e w' ⟨rfl, hn⟩
  clear R15
  have hb := quiet1 hn; clear hn; replace BB := Lib.hid (step1 BB.out hb); replace O4 := Lib.hid (OF_below O4.out hb); replace O5 := Lib.hid (OI_below O5.out hb); replace M8 := Lib.hid (OF_below M8.out hb); replace M9 := Lib.hid (OI_below M9.out hb); clear hb
  go_wp2_with fail
  refine (l_heldFloat32S u8 (wres xss).1.length 1 _ (by omega) _ (RF_of_own M8.out (by rw [HML.out]; omega)) (by omega) (by omega)).mono ?_
  rintro e w' ⟨rfl, hn⟩
  have hb := quiet1 hn; clear hn; replace BB := Lib.hid (step1 BB.out hb); replace O4 := Lib.hid (OF_below O4.out hb); replace O5 := Lib.hid (OI_below O5.out hb); replace M8 := Lib.hid (OF_below M8.out hb); replace M9 := Lib.hid (OI_below M9.out hb); clear hb
  go_wp2_with fail
  refine (l_heldInt64S u9 (wres xss).2.length (1 + (wres xss).1.length) _ (by omega) _ (RI_of_own M9.out (by rw [HML2.out]; omega)) (by omega) (by omega)).mono ?_
  rintro e w' ⟨rfl, hn⟩
  have hb := quiet1 hn; clear hn; replace BB := Lib.hid (step1 BB.out hb); replace O4 := Lib.hid (OF_below O4.out hb); replace O5 := Lib.hid (OI_below O5.out hb); replace M8 := Lib.hid (OF_below M8.out hb); replace M9 := Lib.hid (OI_below M9.out hb); clear hb
  go_wp2
  go_ret
  exact ⟨rfl, BB.out⟩

theorem row_of {H : Type} {enc : TypeId × Value → H} {w : World} {base : Nat} {spare : Nat → Bool} {held : Bool} {fuel : Nat} {x : Value} {y : DataW H × List MemPlace}
    (hf : DataW.trod enc Try.prog w base spare held fuel 32 [x] = some y) : ∃ xs : List Nat, ∃ p cap, x = .slice p xs.length cap ∧ xs.length ≤ maxLen ∧ (xs.length = 0 ∨ ∃ b off, p = some ⟨b, off, none⟩ ∧ ∀ j u, (xs.map (Value.float .f32))[j]? = some u → w.cell? ⟨b, off + j, none⟩ = some u) := by
  rcases open_slice1 Try.underlying32 (by kernel_rfl) hf with ⟨hcs, -⟩ | ⟨a', len', cap', m, n, V, D, Pl, hcs, -, hl, hm, hmm, -, hx⟩
  · simp at hcs
    subst hcs
    exact ⟨[], none, 0, rfl, Nat.zero_le _, .inl rfl⟩
  · simp at hcs
    subst hcs
    have hlm : len' ≤ m := by rw [hmm]; split <;> omega
    have hV : ∀ i, i < len' → ∃ b, V i = .float .f32 b := fun i hi => by
      obtain ⟨b, e, -⟩ := trod_float Try.underlying22 (hx i (by omega)).2
      simp at e
      exact ⟨b, e⟩
    refine ⟨(List.range len').map fun i => match V i with | .float _ b => b | _ => 0, some a', cap', by simp, by simp; omega, ?_⟩
    by_cases h0 : len' = 0
    · left; simp [h0]
    · right
      obtain ⟨b, off, spot⟩ := a'
      have hspot : spot = none := by simpa [Addr.add] using World.cell?_spot (hx 0 (by omega)).1
      subst hspot
      refine ⟨b, off, rfl, fun j u hj => ?_⟩
      simp only [List.map_map] at hj
      rw [List.getElem?_map] at hj
      by_cases hjl : j < len'
      · rw [List.getElem?_range hjl] at hj
        simp only [Option.map_some, Function.comp] at hj
        obtain ⟨x, hxv⟩ := hV j hjl
        rw [hxv] at hj
        have h1 := (hx j (by omega)).1
        rw [hxv] at h1
        cases hj
        have e : (⟨b, off, none⟩ : Addr).add j = ⟨b, off + j, none⟩ := Go.WideShapes.add_plain _ _ _
        rw [← e]; exact h1
      · rw [List.getElem?_eq_none (by simpa using hjl)] at hj
        cases hj
theorem open_RFF {H : Type} {enc : TypeId × Value → H} {w : World} {r : Reach} {b0 base : Nat} {spare : Nat → Bool} {held : Bool} {v : Value} {d : DataW H} {p : List MemPlace}
    (hv : Value.okWide Try.prog w r b0 37 v) (h : DataW.Trod enc Try.prog w base spare held 37 v d p) : ∃ ux : List Value × List (List Nat), RFFw w v ux.1 ux.2 := by
  obtain ⟨fuel, hf⟩ := h
  obtain ⟨a, len, cap, rfl⟩ := okWide_slice Try.underlying37 hv
  rcases open_slice1 Try.underlying37 (by kernel_rfl) hf with ⟨hcs, -⟩ | ⟨a', len', cap', m, n, V, D, Pl, hcs, -, hl, hm, hmm, -, hx⟩
  · simp only [Value.cells] at hcs
    simp at hcs
    obtain ⟨rfl, rfl, rfl⟩ := hcs
    exact ⟨([], []), ⟨none, 0, rfl, Nat.zero_le _, .inl rfl⟩, rfl, fun i h1 => absurd h1 (Nat.not_lt_zero _)⟩
  · simp only [Value.cells] at hcs
    simp at hcs
    obtain ⟨rfl, rfl, rfl⟩ := hcs
    have hlm : len ≤ m := by rw [hmm]; split <;> omega
    have hrow : ∀ i, ∃ xs : List Nat, i < len → ∃ p cap, V i = .slice p xs.length cap ∧ xs.length ≤ maxLen ∧ (xs.length = 0 ∨ ∃ b off, p = some ⟨b, off, none⟩ ∧ ∀ j u, (xs.map (Value.float .f32))[j]? = some u → w.cell? ⟨b, off + j, none⟩ = some u) := fun i => by
      by_cases hi : i < len
      · obtain ⟨xs, h⟩ := row_of (hx i (by omega)).2
        exact ⟨xs, fun _ => h⟩
      · exact ⟨[], fun h => absurd h hi⟩
    obtain ⟨f, hfr⟩ := Classical.axiomOfChoice hrow
    refine ⟨((List.range len).map V, (List.range len).map f), ⟨some a', cap, by simp, by simp; omega, ?_⟩, by simp, fun i h1 h2 => ?_⟩
    · by_cases h0 : len = 0
      · left; simp [h0]
      · right
        obtain ⟨b, off, spot⟩ := a'
        have hspot : spot = none := by simpa [Addr.add] using World.cell?_spot (hx 0 (by omega)).1
        subst hspot
        refine ⟨b, off, rfl, fun j u hj => ?_⟩
        rw [List.getElem?_map] at hj
        by_cases hjl : j < len
        · rw [List.getElem?_range hjl] at hj
          simp only [Option.map_some] at hj
          cases hj
          have e : (⟨b, off, none⟩ : Addr).add j = ⟨b, off + j, none⟩ := Go.WideShapes.add_plain _ _ _
          rw [← e]; exact (hx j (by omega)).1
        · rw [List.getElem?_eq_none (by simpa using hjl)] at hj
          cases hj
    · simp only [List.length_map, List.length_range] at h1
      simp only [List.getElem_map, List.getElem_range]
      exact hfr i h1

set_option maxRecDepth 100000 in
theorem FnExactWorstLoads_lifted (os : Os) (started : os.Started) (H : Type) (enc : TypeId × Value → H) :
    ReturnsInHanded {} Try.checked os 5 .any (Rows.fnExactWorstLoadsSpec.pre6 enc Try.prog Try.f5 Rows.fnExactWorstLoadsRow.domain false) (Rows.fnExactWorstLoadsSpec.post enc Try.prog Try.f5 false true false false) := by
  refine returnsInHanded_of_change_sized (C := Try.checked) Try.own started (by as_aux_lemma => kernel_rfl) Try.func5
    (ChangeSpec.witness6 (enc := enc) (C := Try.checked) false ⟨#[], #[.slice none 0 0], []⟩ 8 (by as_aux_lemma => kernel_rfl) (by as_aux_lemma => kernel_rfl) (by as_aux_lemma => kernel_rfl) (by as_aux_lemma => kernel_rfl)) ?_
  intro W base args ds gs before hval0 hW hcnd0 hsz0 _
  have hval : ∀ (j : Nat) t v, Try.f5.params[j]? = some t → args[j]? = some v → Value.okWide Try.prog W .any base t v := hval0
  have hsz : (DataW.weightsEach Try.prog (Try.f5.params.toList ++ Rows.fnExactWorstLoadsSpec.plain.varTypes Try.prog) (ds ++ gs)).all (· ≤ reachBytes) = true := hsz0
  have hW' := hW
  obtain ⟨p, q, hA0, hV, rfl, hfz, hnd⟩ := hW
  have hA : DataW.TrodAll enc Try.prog W 0 (fun _ => true) true Try.f5.params.toList args.toList ds p := hA0
  rw [Try.params5] at hA hval hsz
  obtain ⟨rfl, rfl⟩ := trodVars_none hV
  obtain ⟨v0, vs0, d0, ds0, p0, q0, ha0, rfl, rfl, h0, r0⟩ := trodAll_cons hA
  obtain ⟨rfl, rfl, rfl⟩ := trodAll_nil r0
  obtain rfl : args = #[v0] := by apply Array.ext'; exact ha0
  obtain ⟨ux, R_ux⟩ := open_RFF (hval 0 _ v0 rfl rfl) h0
  refine (l_FnExactWorstLoads v0 ux.1 ux.2 W R_ux).mono fun e W' ⟨he, hb⟩ => ?_
  subst he
  exact ⟨_, rfl, post_law Try.laidOut (by as_aux_lemma => kernel_rfl) rfl Try.underlying4 hW' rfl ⟨rfl, rfl, rfl⟩ hb⟩

theorem FnExactWorstLoads_holds : Rows.FnExactWorstLoadsSaid :=
  OpenClaim.holds_of_wide 5 Try.f5 rfl rfl rfl rfl rfl rfl rfl ⟨rfl, rfl, rfl, rfl, rfl⟩ rfl rfl rfl rfl rfl (by as_aux_lemma => kernel_rfl) Try.func5 (by as_aux_lemma => kernel_rfl)
    (of_decide_eq_true (by as_aux_lemma => kernel_rfl)) (by unfold Func.isWrapper; rw [if_neg (of_decide_eq_false (by as_aux_lemma => kernel_rfl))]; exact ⟨rfl, rfl⟩)
    (fun os started H enc _ => FnExactWorstLoads_lifted os started H enc)
end Go.Proofs.Ytmpajgpnbiaoiaa
