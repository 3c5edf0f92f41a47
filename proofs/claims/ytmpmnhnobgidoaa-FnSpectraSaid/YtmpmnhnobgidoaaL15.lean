/- For every input the law FnSpectra answers true. -/
import Derived.Test.YtmpmnhnobgidoaaVU
import Derived.Test.YtmpmnhnobgidoaaP
namespace Go.Proofs.Ytmpmnhnobgidoaa
set_option linter.unusedSimpArgs false
set_option linter.unusedVariables false
open Go.ChangeShapes Go.WideShapes Go.ChangeAt Go.RowKit Go.Joins Go.Deep Go.Fl Go.Lib

theorem RX_atD {w : World} {p : Option Addr} {n cap : Nat} {xs : List Cx} (h : RX w (.slice p n cap) xs) {i : Nat} (hi : i < xs.length) : ∃ b off, p = some ⟨b, off, none⟩ ∧ ∀ j, j < xs.length → w.cell? ⟨b, off + j, none⟩ = some (cx (xs.getD j (0, 0))) := by
  obtain ⟨q, c, e, -, hc⟩ := h
  cases e
  obtain ⟨b, off, e2, hcell⟩ := hc.resolve_left (by omega)
  exact ⟨b, off, e2, fun j hj => hcell j _ (by rw [List.getElem?_map, List.getD_eq_getElem?_getD, List.getElem?_eq_getElem hj]; rfl)⟩
theorem RF_atE {w : World} {p : Option Addr} {n cap : Nat} {xs : List Nat} (h : RF w (.slice p n cap) xs) {i : Nat} (hi : i < xs.length) : ∃ b off, p = some ⟨b, off, none⟩ ∧ ∀ j, j < xs.length → w.cell? ⟨b, off + j, none⟩ = some (.float .f32 (xs.getD j 0)) := by
  obtain ⟨q, c, e, -, hc⟩ := h
  cases e
  obtain ⟨b, off, e2, hcell⟩ := hc.resolve_left (by omega)
  exact ⟨b, off, e2, fun j hj => hcell j _ (by rw [List.getElem?_map, List.getD_eq_getElem?_getD, List.getElem?_eq_getElem hj]; rfl)⟩
def pows (xs : List Nat) : List Nat := (List.range xs.length).map fun m => pow32 (specAt xs m)
theorem pows_length (xs : List Nat) : (pows xs).length = xs.length := by simp [pows]
theorem pows_take (xs : List Nat) (m : Nat) (h : m < xs.length) : (pows xs).take (m + 1) = (pows xs).take m ++ [pow32 (specAt xs m)] := by
  rw [List.take_succ_eq_append_getElem (by rw [pows_length]; exact h)]
  simp [pows]
theorem pows_at (xs : List Nat) {m : Nat} (h : m < xs.length) : (pows xs).getD m 0 = pow32 (specAt xs m) := by
  rw [List.getD_eq_getElem?_getD]; simp [pows, h]
theorem spec_at (xs : List Nat) {m : Nat} (h : m < xs.length) : (spectrum xs).getD m (0, 0) = specAt xs m := by
  rw [List.getD_eq_getElem?_getD]; simp [spectrum, h]
theorem placeF {xs : List Nat} {ks : List Int} (h : Wh xs ks) (h1 : 1 ≤ xs.length) (h2 : xs.length ≤ 16) (m : Nat) : PlaceF (specAt xs m) := by
  obtain ⟨x, y, x1, y1, x2, y2, -⟩ := spec_wi h h1 h2 m
  exact (place_of x1 y1 x2 y2).1
theorem spec_good {xs : List Nat} {ks : List Int} (h : Wh xs ks) (h1 : 1 ≤ xs.length) (h2 : xs.length ≤ 16) : specGood xs = true := by
  unfold specGood
  rw [h.loads h1 h2, finX_of]
  · rfl
  · intro m _
    have hp := placeF h h1 h2 m
    obtain ⟨x, x1⟩ := hp.re
    obtain ⟨y, y1⟩ := hp.im
    unfold cfin
    rw [x1.fin, y1.fin]; rfl
theorem pows_fin {xs : List Nat} {ks : List Int} (h : Wh xs ks) (h1 : 1 ≤ xs.length) (h2 : xs.length ≤ 16) : finAll (pows xs) = true := by
  unfold finAll
  rw [List.all_eq_true]
  intro p hp
  obtain ⟨m, hm, rfl⟩ := List.mem_map.1 hp
  obtain ⟨x, x1⟩ := (placeF h h1 h2 m).w
  exact x1.fin
theorem i_power (c : Cx) (h : PlaceF c) (w : World) : Calls Try.prog 94 #[cx c] w fun e w' => e = .returned (.float .f64 (p64 c)) ∧ ∃ n, w' = w.drewN n := by
  obtain ⟨a, b⟩ := c
  obtain ⟨x, hx⟩ := h.re
  obtain ⟨y, hy⟩ := h.im
  obtain ⟨_, m1⟩ := h.m1
  obtain ⟨_, m2⟩ := h.m2
  obtain ⟨_, p1, -⟩ := h.p
  have r1 := run_wide (P := Try.prog) (src := 26) (dst := 37) (by kernel_rfl) Try.underlying37 hx
  have r2 := run_wide (P := Try.prog) (src := 26) (dst := 37) (by kernel_rfl) Try.underlying37 hy
  have r3 := run_arith (P := Try.prog) 37 m1
  have r4 := run_arith (P := Try.prog) 37 m2
  have r5 := run_arith (P := Try.prog) 37 (show Rv .f64 (fa .add .f64 (fa .mul .f64 (widen a) (widen a)) (fa .mul .f64 (widen b) (widen b))) _ from p1)
  have e : fa .add .f64 (fa .mul .f64 (widen a) (widen a)) (fa .mul .f64 (widen b) (widen b)) = p64 (a, b) := rfl
  rw [e] at r5
  clear hx hy m1 m2 p1 e h
  replace r1 : ∀ w, (convert 26 37 (.float .f32 a)).run Try.prog w = .ok (.float .f64 (widen a)) w := r1
  replace r2 : ∀ w, (convert 26 37 (.float .f32 b)).run Try.prog w = .ok (.float .f64 (widen b)) w := r2
  replace r3 : ∀ w, (binOp .mul 37 (.float .f64 (widen a)) (.float .f64 (widen a))).run Try.prog w = .ok (.float .f64 (fa .mul .f64 (widen a) (widen a))) w := r3
  replace r4 : ∀ w, (binOp .mul 37 (.float .f64 (widen b)) (.float .f64 (widen b))).run Try.prog w = .ok (.float .f64 (fa .mul .f64 (widen b) (widen b))) w := r4
  generalize p64 (a, b) = R at *
  generalize fa .mul .f64 (widen a) (widen a) = M1 at *
  generalize fa .mul .f64 (widen b) (widen b) = M2 at *
  go_enter Try.func94, Try.ntmps94
  go_wp2
  go_ret
  exact ⟨rfl, 0, rfl⟩
theorem i_PowerOf (c : Cx) (h : PlaceF c) (w : World) : Calls Try.prog 76 #[cx c] w fun e w' => e = .returned (.float .f32 (pow32 c)) ∧ ∃ n, w' = w.drewN n := by
  have HP := Lib.hid (i_power c h w)
  obtain ⟨_, p1, p2, p3⟩ := h.p
  have r1 := run_narr (P := Try.prog) (src := 37) (dst := 26) (by kernel_rfl) Try.underlying26 p1 p2 p3
  have e : narrow (p64 c) = pow32 c := rfl
  rw [e] at r1
  clear e p1 p2 p3 h
  generalize pow32 c = R at *
  generalize p64 c = M at *
  go_enter Try.func76, Try.ntmps76
  go_wp2_with fail
  refine HP.out.mono ?_
  rintro e w' ⟨rfl, n, rfl⟩
  go_wp2
  go_ret
  exact ⟨rfl, _, rfl⟩
set_option maxHeartbeats 2000000 in
theorem i_PowersOfLoads (v : Value) (xs : List Nat) (ks : List Int) (w : World) (hx : RF w v xs) (h : Wh xs ks) (h1 : 1 ≤ xs.length) (h2 : xs.length ≤ 16) :
    Calls Try.prog 38 #[v] w fun e w' => ∃ p c, e = .returned (.tuple #[.slice p xs.length c, .bool true]) ∧ RF w' (.slice p xs.length c) (pows xs) ∧ Below w.heap.size w w' := by
  have HSP := Lib.hid (i_SpectrumOfLoads v xs w hx)
  unfold SpecOut at HSP
  rw [spec_good h h1 h2] at HSP
  have HPL := Lib.hid (fun m => placeF h h1 h2 m)
  have HFN := Lib.hid (pows_fin h h1 h2)
  have HN := Lib.hid (And.intro h1 h2)
  clear hx h h1 h2
  go_enter Try.func38, Try.ntmps38
  go_wp2_with fail
  refine HSP.out.mono ?_
  rintro e w1 ⟨u, rfl, hO, hb⟩
  rw [if_pos (by trivial)] at hO
  have HB1 := Lib.hid hb
  have hR := RX_of_own hO (by rw [spectrum_length]; have := HN.out; omega)
  obtain ⟨pz, cz, rfl, -, -⟩ := id hR
  obtain ⟨bz, oz, rfl, hcell⟩ := RX_atD hR (i := 0) (by rw [spectrum_length]; have := HN.out; omega)
  rw [spectrum_length] at hcell ⊢
  have HC := Lib.hid hcell
  clear hO hb hR hcell HSP
  go_wp2_with fail
  have HO2 : Hid (OF w1.heap.size (w1.alloc (.cells #[] 26)) (.slice (some ⟨w1.heap.size, 0, none⟩) 0 0) []) := OF_empty _ _ _ rfl (Nat.le_refl _) _ rfl
  have HB2 : Hid (Below w1.heap.size w1 (w1.alloc (.cells #[] 26))) := below_alloc (Nat.le_refl _) (Below.refl _ _) _
  generalize w1.alloc (.cells #[] 26) = w5 at *
  obtain ⟨z, hz⟩ : ∃ z, z = w1.heap.size := ⟨_, rfl⟩
  rw [← hz] at HO2
  rw [← hz]
  have HZ := Lib.hid hz
  clear hz
  go_loopw [6, 19] (fun o i wr => ∃ m : Nat, m ≤ xs.length ∧ i = .int .i64 (m : Int) ∧ Hid (OF w1.heap.size wr o ((pows xs).take m)) ∧ Hid (Below w1.heap.size w1 wr)) (fun _ i _ => xs.length - (intOf i).toNat)
  case atStart => exact ⟨0, Nat.zero_le _, rfl, (by show OF _ _ _ _; rw [← HZ.out]; exact HO2.out), HB2.out⟩
  case round =>
    obtain ⟨m, hm, rfl, hO, hB⟩ := hrel
    by_cases hlt : m < xs.length
    · have c0 := HC.out m hlt
      rw [spec_at xs hlt] at c0
      have c1 := (hB.out.cell (p := ⟨bz, oz + m, none⟩) (block_lt_of_cell c0)).trans c0
      have HPO := Lib.hid (fun W => i_PowerOf (specAt xs m) (HPL.out m) W)
      have HT := Lib.hid (pows_take xs m hlt)
      have HXL : Hid (((pows xs).take m).length ≤ 1048576) := by show _ ≤ _; rw [List.length_take]; have := HN.out; omega
      have HS : Hid (w1.heap.size ≤ wr.heap.size) := hB.out.size
      have HLT := Lib.hid hlt
      have hm16 : m < 16 := by have := HN.out; omega
      have r3 : (m : Int) < (xs.length : Int) := by omega
      clear hm hlt c0 HO2 HB2 HZ
      generalize hy2 : (pows xs).take (m + 1) = ys2 at *
      have HY2 := Lib.hid hy2
      clear hy2
      generalize (pows xs).take m = ys at *
      generalize pow32 (specAt xs m) = R at *
      generalize specAt xs m = S at *
      go_wp2_with fail
      refine (HPO.out _).mono ?_
      rintro e' w6 ⟨rfl, N, rfl⟩
      have HOa : Hid (OF w1.heap.size ((wr.drewN N).alloc (.cells #[.float .f32 R] 26)) u6 ys) := OF_below hO.out (below_alloc (Nat.le_refl _) (below_drewN (Below.refl _ _) N) _)
      go_wp2_with (refine wpList_appF w1.heap.size ys R rfl rfl rfl rfl HOa.out (cell_top1 _ _ rfl _ _) HXL.out (by rw [World.size_alloc]; have := HS.out; simp; omega) ?_; intro u w9 hO9 hB9)
      go_roundw
      case rel =>
        refine ⟨m + 1, HLT.out, by go_num, (by show OF _ _ _ _; rw [HY2.out, HT.out]; exact hO9), ?_⟩
        exact hB.out.trans (Below.trans (below_alloc (by have := HS.out; simpa using this) (below_drewN (Below.refl _ _) N) _) hB9)
      case measure => have := HLT.out; simp [intOf]; omega
    · obtain rfl : m = xs.length := by omega
      have ht : (pows xs).take xs.length = pows xs := by
        have := List.take_length (l := pows xs)
        rwa [pows_length] at this
      rw [ht] at hO
      have hR := RF_of_own hO.out (by rw [pows_length]; have := HN.out; omega)
      obtain ⟨pp, cp, rfl, -, -⟩ := id hR
      rw [pows_length] at hR ⊢
      have HR := Lib.hid hR
      have HB3 : Hid (Below w.heap.size w wr) := below_step (Nat.le_refl _) HB1.out hB.out
      have HCL := Lib.hid (i_checkedList _ (pows xs) wr hR)
      rw [HFN.out] at HCL
      simp only [if_true] at HCL
      clear ht hm hlt hO hB hR
      go_wp2_with fail
      refine HCL.out.mono ?_
      rintro e' w6 ⟨rfl, N, rfl⟩
      go_wp2
      go_ret2
      exact ⟨_, _, rfl, RF_below HR.out (below_drewN (Below.refl _ _) N), below_drewN HB3.out N⟩
/-- What happens at one place of the law's loop. -/
structure RoundF (P : Program) (xs : List Nat) (m X C1 C2 PW : Nat) : Prop where
  w : ∀ w, (convert 26 37 (.float .f32 X)).run P w = .ok (.float .f64 (widen X)) w
  s : ∀ w, (binOp .add 37 (.float .f64 (ssum xs m)) (.float .f64 (widen X))).run P w = .ok (.float .f64 (ssum xs (m + 1))) w
  q : ∀ w, (binOp .mul 37 (.float .f64 (widen X)) (.float .f64 (widen X))).run P w = .ok (.float .f64 (fa .mul .f64 (widen X) (widen X))) w
  t : ∀ w, (binOp .add 37 (.float .f64 (sqW xs m)) (.float .f64 (fa .mul .f64 (widen X) (widen X)))).run P w = .ok (.float .f64 (sqW xs (m + 1))) w
  pw : ∀ w, (convert 26 37 (.float .f32 PW)).run P w = .ok (.float .f64 (widen PW)) w
  pa : ∀ w, (binOp .add 37 (.float .f64 (powAcc xs m)) (.float .f64 (widen PW))).run P w = .ok (.float .f64 (powAcc xs (m + 1))) w
  c1 : ∀ w, (convert 26 37 (.float .f32 C1)).run P w = .ok (.float .f64 (widen C1)) w
  c2 : ∀ w, (convert 26 37 (.float .f32 C2)).run P w = .ok (.float .f64 (widen C2)) w
theorem roundF {xs : List Nat} {ks : List Int} (h : Wh xs ks) (h1 : 1 ≤ xs.length) (h2 : xs.length ≤ 16) {m : Nat} (hm : m < xs.length) : RoundF Try.prog xs m (xs.getD m 0) (specAt xs m).1 (specAt xs m).2 (pow32 (specAt xs m)) := by
  have hl := load_rv h hm
  have hgx : xs[m] = xs.getD m 0 := by rw [List.getD_eq_getElem?_getD, List.getElem?_eq_getElem hm]; rfl
  have s1 := ssum_rv h h2 (m + 1) hm
  rw [ssum_succ xs m hm, hgx] at s1
  have e1 : ssum xs (m + 1) = fa .add .f64 (ssum xs m) (widen (xs.getD m 0)) := by rw [ssum_succ xs m hm, hgx]
  have s2 := (sqW_rv h h2 (m + 1) hm).1
  have h8 := Lk_le h m
  have hsq : Lk ks m * Lk ks m ≤ 8 * 8 ∧ 0 ≤ Lk ks m * Lk ks m := ⟨by
    have := abs_mul_le (a := Lk ks m) (b := Lk ks m) (c := 8) (d := 8) (by omega) (by omega)
    omega, sq_pos _⟩
  have hmm := mul_int (widen_q hl) (widen_q hl) (by show _ < 2 ^ 53; omega)
  obtain ⟨V, U, v1, -⟩ := powAcc_rv h h1 h2 (m + 1) hm
  have hp := placeF h h1 h2 m
  obtain ⟨_, p1⟩ := hp.w
  obtain ⟨_, p2⟩ := hp.re
  obtain ⟨_, p3⟩ := hp.im
  exact ⟨run_wide (by kernel_rfl) Try.underlying37 hl, (by rw [e1]; exact run_arith _ s1), run_arith _ hmm, run_arith _ s2, run_wide (by kernel_rfl) Try.underlying37 p1, run_arith _ v1, run_wide (by kernel_rfl) Try.underlying37 p2, run_wide (by kernel_rfl) Try.underlying37 p3⟩
set_option maxRecDepth 100000 in
set_option maxHeartbeats 8000000 in
theorem l_FnSpectra (v u : Value) (bs cs : List Nat) (w : World) (h0 : RBw w v bs) (h1 : RBw w u cs) : Calls Try.prog 7 #[v, u] w fun e w' => e = .returned (.bool true) ∧ Below w.heap.size w w' := by
  have HL := Lib.hid (l_b10Long v u bs cs w h0 h1)
  by_cases hl : bs.length ≤ 1048576 ∧ cs.length ≤ 1048576
  case neg =>
    have hd : (decide (1048576 < bs.length) || decide (1048576 < cs.length)) = true := by simp; omega
    rw [hd] at HL
    clear h0 h1 hl hd
    go_enter Try.func7, Try.ntmps7
    go_wp2_with fail
    refine HL.out.mono ?_
    rintro e w1 ⟨rfl, n, rfl⟩
    go_wp2
    go_ret
    exact ⟨rfl, (by repeat (first | exact Below.refl _ _ | assumption | refine below_drewN ?_ _ | refine below_alloc (Nat.le_refl _) ?_ _ | (refine Below.setCell ?_ (by first | exact Nat.le_refl _ | (simp; done) | (simp; omega) | omega) _) | (refine below_step (Nat.le_refl _) ?_ (by assumption))))⟩
  have hd : (decide (1048576 < bs.length) || decide (1048576 < cs.length)) = false := by simp; omega
  rw [hd] at HL
  have HV := Lib.hid (RB_of h0 hl.1)
  clear h0 h1 hl hd
  go_enter Try.func7, Try.ntmps7
  go_wp2_with fail
  refine HL.out.mono ?_
  rintro e w0 ⟨rfl, n0, rfl⟩
  go_wp2_with fail
  refine (s_B10Loads v bs _ (RB_below HV.out (by repeat (first | exact Below.refl _ _ | assumption | refine below_drewN ?_ _ | refine below_alloc (Nat.le_refl _) ?_ _ | (refine Below.setCell ?_ (by first | exact Nat.le_refl _ | (simp; done) | (simp; omega) | omega) _) | (refine below_step (Nat.le_refl _) ?_ (by assumption)))))).mono ?_
  rintro e w1 ⟨a, xs, ks, rfl, hO, hW, x1, x2, hb⟩
  have HB1 : Hid (Below w.heap.size w w1) := below_step (Nat.le_refl _) (by repeat (first | exact Below.refl _ _ | assumption | refine below_drewN ?_ _ | refine below_alloc (Nat.le_refl _) ?_ _ | (refine Below.setCell ?_ (by first | exact Nat.le_refl _ | (simp; done) | (simp; omega) | omega) _) | (refine below_step (Nat.le_refl _) ?_ (by assumption)))) hb
  have HX := Lib.hid (And.intro x1 x2)
  have HW := Lib.hid hW
  have HA := Lib.hid (RF_of_own hO (by omega))
  obtain ⟨pa, ca, rfl, -, -⟩ := RF_of_own hO (by omega)
  clear hb hO hW x1 x2 HL HV
  go_wp2_with fail
  have HSP := Lib.hid (i_SpectrumOfLoads _ xs w1 HA.out)
  unfold SpecOut at HSP
  rw [spec_good HW.out HX.out.1 HX.out.2] at HSP
  refine HSP.out.mono ?_
  rintro e w2 ⟨us, rfl, hO, hb⟩
  rw [if_pos (by trivial)] at hO
  have hR := RX_of_own hO (by rw [spectrum_length]; have := HX.out; omega)
  obtain ⟨pz, cz, rfl, -, -⟩ := id hR
  replace HA := Lib.hid (RF_below HA.out hb)
  replace HB1 := Lib.hid (below_step (Nat.le_refl _) HB1.out hb)
  have HZ := Lib.hid hR
  clear hO hb hR HSP
  go_wp2_with fail
  refine (i_PowersOfLoads _ xs ks w2 HA.out HW.out HX.out.1 HX.out.2).mono ?_
  rintro e w3 ⟨pp, cp, rfl, hR, hb⟩
  replace HA := Lib.hid (RF_below HA.out hb)
  replace HZ := Lib.hid (RX_below HZ.out hb)
  replace HB1 := Lib.hid (below_step (Nat.le_refl _) HB1.out hb)
  have HP := Lib.hid hR
  rw [spectrum_length] at HZ ⊢
  have hx0 := HX.out
  obtain ⟨ba, oa, rfl, ka⟩ := RF_atE HA.out (i := 0) (by omega)
  have HZ' : Hid (RX w3 (.slice pz (spectrum xs).length cz) (spectrum xs)) := by show RX _ _ _; rw [spectrum_length]; exact HZ.out
  have HP' : Hid (RF w3 (.slice pp (pows xs).length cp) (pows xs)) := by show RF _ _ _; rw [pows_length]; exact HP.out
  obtain ⟨bz, oz, rfl, kz⟩ := RX_atD HZ'.out (i := 0) (by rw [spectrum_length]; omega)
  obtain ⟨bp, op, rfl, kp⟩ := RF_atE HP'.out (i := 0) (by rw [pows_length]; omega)
  rw [spectrum_length] at kz
  rw [pows_length] at kp
  have KA := Lib.hid ka
  have KZ := Lib.hid kz
  have KP := Lib.hid kp
  clear ka kz kp hR hb HZ' HP' HZ HP HA hx0
  have hne : ((xs.length : Int) != (xs.length : Int)) = false := by simp
  go_wp2_with fail
  go_loopw [10, 11, 12, 54] (fun s q p i wr => ∃ m N : Nat, m ≤ xs.length ∧ i = .int .i64 (m : Int) ∧ s = .float .f64 (ssum xs m) ∧ q = .float .f64 (sqW xs m) ∧ p = .float .f64 (powAcc xs m) ∧ wr = w3.drewN N) (fun _ _ _ i _ => xs.length - (intOf i).toNat)
  case atStart => exact ⟨0, 0, Nat.zero_le _, rfl, rfl, rfl, rfl, rfl⟩
  case round =>
    obtain ⟨m, N, hm, rfl, rfl, rfl, rfl, rfl⟩ := hrel
    by_cases hlt : m < xs.length
    · have c1 := KA.out m hlt
      have c2 := KZ.out m hlt
      have c3 := KP.out m hlt
      rw [spec_at xs hlt] at c2
      rw [pows_at xs hlt] at c3
      have hp := placeF HW.out HX.out.1 HX.out.2 m
      obtain ⟨r1, r2, r3, r4, r5, r6, r7, r8⟩ := roundF HW.out HX.out.1 HX.out.2 hlt
      obtain ⟨_, m1⟩ := hp.m1
      obtain ⟨_, m2⟩ := hp.m2
      obtain ⟨_, p1, -⟩ := hp.p
      obtain ⟨_, s1⟩ := hp.s1
      obtain ⟨_, s2⟩ := hp.s2
      obtain ⟨_, t1⟩ := hp.t
      obtain ⟨ga, gb, ge, g1, g2, g3, g4⟩ := hp.g
      have ho := hp.lt
      have HG := Lib.hid (fun W => l_b10Gap _ _ _ _ _ g1 g2 g3 g4 W)
      have q1 := run_arith (P := Try.prog) 37 m1
      have q2 := run_arith (P := Try.prog) 37 m2
      have q3 := run_arith (P := Try.prog) 37 (show Rv .f64 (fa .add .f64 (fa .mul .f64 (widen (specAt xs m).1) (widen (specAt xs m).1)) (fa .mul .f64 (widen (specAt xs m).2) (widen (specAt xs m).2))) _ from p1)
      have ep : fa .add .f64 (fa .mul .f64 (widen (specAt xs m).1) (widen (specAt xs m).1)) (fa .mul .f64 (widen (specAt xs m).2) (widen (specAt xs m).2)) = p64 (specAt xs m) := rfl
      rw [ep] at q3
      have q4 := run_arith (P := Try.prog) 37 s1
      have q5 := run_arith (P := Try.prog) 37 s2
      have q6 := run_arith (P := Try.prog) 37 t1
      have HLT := Lib.hid hlt
      have hm16 : m < 16 := by have := HX.out; omega
      have r0 : (m : Int) < (xs.length : Int) := by omega
      have he : cx (specAt xs m) = .complex .f32 (specAt xs m).1 (specAt xs m).2 := rfl
      rw [he] at c2
      clear hp m1 m2 p1 s1 s2 t1 g1 g2 g3 g4 ep hm hlt he
      generalize hn1 : ssum xs (m + 1) = N1 at *
      generalize hn2 : sqW xs (m + 1) = N2 at *
      generalize hn3 : powAcc xs (m + 1) = N3 at *
      have HN := Lib.hid (And.intro hn1 (And.intro hn2 hn3))
      clear hn1 hn2 hn3
      generalize gap (widen (pow32 (specAt xs m))) (p64 (specAt xs m)) = GG at *
      generalize p64 (specAt xs m) = PP at *
      generalize pow32 (specAt xs m) = PW at *
      generalize (specAt xs m).1 = C1 at *
      generalize (specAt xs m).2 = C2 at *
      generalize fa .mul .f64 4562254508917369340 (fa .add .f64 (fa .add .f64 4607182418800017408 (fa .mul .f64 (widen C1) (widen C1))) (fa .mul .f64 (widen C2) (widen C2))) = T6 at *
      generalize fa .add .f64 (fa .add .f64 4607182418800017408 (fa .mul .f64 (widen C1) (widen C1))) (fa .mul .f64 (widen C2) (widen C2)) = T5 at *
      generalize fa .add .f64 4607182418800017408 (fa .mul .f64 (widen C1) (widen C1)) = T4 at *
      generalize fa .mul .f64 (widen C1) (widen C1) = T1 at *
      generalize fa .mul .f64 (widen C2) (widen C2) = T2 at *
      generalize xs.getD m 0 = X at *
      generalize fa .mul .f64 (widen X) (widen X) = TX at *
      generalize widen X = XW at *
      generalize widen C1 = W1 at *
      generalize widen C2 = W2 at *
      generalize widen PW = PWW at *
      go_wp2_with fail
      go_quiet (fail)
      go_wp2_with fail
      refine (HG.out _).mono ?_
      rintro e' w6 ⟨rfl, N6, rfl⟩
      go_wp2_with fail
      go_roundw
      case rel => exact ⟨m + 1, _, HLT.out, by go_num, by rw [HN.out.1], by rw [HN.out.2.1], by rw [HN.out.2.2], rfl⟩
      case measure => have := HLT.out; simp [intOf]; omega
    · obtain rfl : m = xs.length := by omega
      have hf := lastF HW.out HX.out.1 HX.out.2
      obtain ⟨a1, b1, e1, g1, g2, g3, g4⟩ := hf.g1
      obtain ⟨a2, b2, e2, g5, g6, g7, g8⟩ := hf.g2
      obtain ⟨_, hm1⟩ := hf.m
      obtain ⟨⟨a3, b3, e3, g9, g10, g11, g12⟩, ⟨_, hs⟩, ⟨_, ht⟩, hlt3⟩ := hf.t
      have B1 := Lib.hid (fun W => l_b10Gap _ _ _ _ _ g1 g2 g3 g4 W)
      have B2 := Lib.hid (fun W => l_b10Gap _ _ _ _ _ g5 g6 g7 g8 W)
      have B3 := Lib.hid (fun W => l_b10Gap _ _ _ _ _ g9 g10 g11 g12 W)
      have c2 := KZ.out 0 (by have := HX.out; omega)
      rw [spec_at xs (show 0 < xs.length by have := HX.out; omega), Nat.add_zero] at c2
      have he : cx (specAt xs 0) = .complex .f32 (specAt xs 0).1 (specAt xs 0).2 := rfl
      rw [he] at c2
      have hp := placeF HW.out HX.out.1 HX.out.2 0
      obtain ⟨_, p2⟩ := hp.re
      obtain ⟨_, p3⟩ := hp.im
      have r1 := run_wide (P := Try.prog) (src := 26) (dst := 37) (by kernel_rfl) Try.underlying37 p2
      have r2 := run_wide (P := Try.prog) (src := 26) (dst := 37) (by kernel_rfl) Try.underlying37 p3
      have r3 := run_arith (P := Try.prog) 37 hm1
      have r4 := run_arith (P := Try.prog) 37 hs
      have r5 := run_arith (P := Try.prog) 37 (show Rv .f64 (fa .mul .f64 4562254508917369340 (fa .add .f64 4607182418800017408 (fa .mul .f64 (floatOfInt .f64 (xs.length : Int)) (sqW xs xs.length)))) _ from ht)
      have o1 := hf.o1
      have o2 := hf.o2
      unfold thr at hlt3
      have z0 : (0 : Int) < (xs.length : Int) := by have := HX.out; omega
      clear hf g1 g2 g3 g4 g5 g6 g7 g8 g9 g10 g11 g12 hm1 hs ht he hp p2 p3 hm hlt
      generalize fa .mul .f64 4562254508917369340 (fa .add .f64 4607182418800017408 (fa .mul .f64 (floatOfInt .f64 (xs.length : Int)) (sqW xs xs.length))) = T3 at *
      generalize fa .add .f64 4607182418800017408 (fa .mul .f64 (floatOfInt .f64 (xs.length : Int)) (sqW xs xs.length)) = T2 at *
      generalize gap (powAcc xs xs.length) (fa .mul .f64 (floatOfInt .f64 (xs.length : Int)) (sqW xs xs.length)) = G3 at *
      generalize fa .mul .f64 (floatOfInt .f64 (xs.length : Int)) (sqW xs xs.length) = T1 at *
      generalize gap (widen (specAt xs 0).1) (ssum xs xs.length) = G1 at *
      generalize gap (widen (specAt xs 0).2) 0 = G2 at *
      generalize (specAt xs 0).1 = C1 at *
      generalize (specAt xs 0).2 = C2 at *
      generalize widen C1 = W1 at *
      generalize widen C2 = W2 at *
      go_wp2_with fail
      refine (B1.out _).mono ?_
      rintro e' w6 ⟨rfl, N6, rfl⟩
      go_wp2_with fail
      refine (B2.out _).mono ?_
      rintro e' w7 ⟨rfl, N7, rfl⟩
      go_wp2_with fail
      refine (B3.out _).mono ?_
      rintro e' w8 ⟨rfl, N8, rfl⟩
      go_wp2
      go_ret
      exact ⟨rfl, by repeat (first | exact HB1.out | refine below_drewN ?_ _)⟩
set_option maxRecDepth 100000 in
theorem FnSpectra_lifted (os : Os) (started : os.Started) (H : Type) (enc : TypeId × Value → H) :
    ReturnsInHanded {} Try.checked os 7 .any (Rows.fnSpectraSpec.pre6 enc Try.prog Try.f7 Rows.fnSpectraRow.domain false) (Rows.fnSpectraSpec.post enc Try.prog Try.f7 false true false false) := by
  refine returnsInHanded_of_change_sized (C := Try.checked) Try.own started (by as_aux_lemma => kernel_rfl) Try.func7
    (ChangeSpec.witness6 (enc := enc) (C := Try.checked) false ⟨#[], #[.slice none 0 0, .slice none 0 0], []⟩ 8 (by as_aux_lemma => kernel_rfl) (by as_aux_lemma => kernel_rfl) (by as_aux_lemma => kernel_rfl) (by as_aux_lemma => kernel_rfl)) ?_
  intro W base args ds gs before hval0 hW hcnd0 hsz0 _
  have hval : ∀ (j : Nat) t v, Try.f7.params[j]? = some t → args[j]? = some v → Value.okWide Try.prog W .any base t v := hval0
  have hsz : (DataW.weightsEach Try.prog (Try.f7.params.toList ++ Rows.fnSpectraSpec.plain.varTypes Try.prog) (ds ++ gs)).all (· ≤ reachBytes) = true := hsz0
  have hW' := hW
  obtain ⟨p, q, hA0, hV, rfl, hfz, hnd⟩ := hW
  have hA : DataW.TrodAll enc Try.prog W 0 (fun _ => true) true Try.f7.params.toList args.toList ds p := hA0
  rw [Try.params7] at hA hval hsz
  obtain ⟨rfl, rfl⟩ := trodVars_none hV
  obtain ⟨v0, vs0, d0, ds0, p0, q0, ha0, rfl, rfl, h0, r0⟩ := trodAll_cons hA
  obtain ⟨v1, vs1, d1, ds1, p1, q1, rfl, rfl, rfl, h1, r1⟩ := trodAll_cons r0
  obtain ⟨rfl, rfl, rfl⟩ := trodAll_nil r1
  obtain rfl : args = #[v0, v1] := by apply Array.ext'; exact ha0
  obtain ⟨v, R_v⟩ := open_RB (hval 0 _ v0 rfl rfl) h0
  obtain ⟨u, R_u⟩ := open_RB (hval 1 _ v1 rfl rfl) h1
  refine (l_FnSpectra v0 v1 v u W R_v R_u).mono fun e W' ⟨he, hb⟩ => ?_
  subst he
  exact ⟨_, rfl, post_law Try.laidOut (by as_aux_lemma => kernel_rfl) rfl Try.underlying4 hW' rfl ⟨rfl, rfl, rfl⟩ hb⟩

theorem FnSpectra_holds : Rows.FnSpectraSaid :=
  OpenClaim.holds_of_wide 7 Try.f7 rfl rfl rfl rfl rfl rfl rfl ⟨rfl, rfl, rfl, rfl, rfl⟩ rfl rfl rfl rfl rfl (by as_aux_lemma => kernel_rfl) Try.func7 (by as_aux_lemma => kernel_rfl)
    (of_decide_eq_true (by as_aux_lemma => kernel_rfl)) (by unfold Func.isWrapper; rw [if_neg (of_decide_eq_false (by as_aux_lemma => kernel_rfl))]; exact ⟨rfl, rfl⟩)
    (fun os started H enc _ => FnSpectra_lifted os started H enc)
end Go.Proofs.Ytmpmnhnobgidoaa
