/- For every input the law FnExactReadFarm answers true. -/
import Derived.Test.YtpkkgfjjnggijaaDoorRQ
import Derived.Test.YtpkkgfjjnggijaaDoorTP
import Derived.Test.YtpkkgfjjnggijaaDoorTie
import Derived.Test.YtpkkgfjjnggijaaDoorCards
import Derived.Stop.LaidErr
namespace Go.Proofs.YtpkkgfjjnggijaaDoor
set_option linter.unusedSimpArgs false
set_option linter.unusedVariables false
open Go.ChangeShapes Go.WideShapes Go.ChangeAt Go.RowKit Go.Fl Go.Tx Go.Lib

theorem farmL_parts (t : ByteArray) : ∃ a l r d s, farmL (farmOf t) = [a, l] ∧ farmN (farmOf t) = (r, d, s) ∧ a.length ≤ 24 ∧ l.length ≤ 24 := by
  cases h : farmOf t with
  | none => exact ⟨[], [], 0, 0, 0, rfl, rfl, by simp, by simp⟩
  | some x => obtain ⟨a, l, r, d, s⟩ := x; exact ⟨a, l, r, d, s, rfl, rfl, by have := farmOf_few h; omega, by have := farmOf_few h; omega⟩
theorem Parts.rf2 {B : Nat} {w : World} {va vl : Value} {a l : List Nat} (h : Parts B w [va, vl] [a, l]) (la : a.length ≤ 1000) (ll : l.length ≤ 1000) : RF w va a ∧ RF w vl l :=
  ⟨RF_of_own h.1 (by omega), RF_of_own h.2.2.1 (by omega)⟩
/-- What is at hand of a profile read: its lists, and the block that bears it. -/
structure Held (B : Nat) (w : World) (g : Nat) (va vl : Value) (r d s : Nat) (xs : List (List Nat)) : Prop where
  parts : Parts B w [va, vl] xs
  at' : FarmAt w g va vl r d s
theorem Held.below {B : Nat} {w w' : World} {g : Nat} {va vl : Value} {r d s : Nat} {xs : List (List Nat)} (h : Held B w g va vl r d s xs) (hb : Below w.heap.size w w') : Held B w' g va vl r d s xs := ⟨h.parts.below hb, h.at'.below hb⟩
set_option maxRecDepth 100000 in
set_option maxHeartbeats 4000000 in
theorem l_FnExactReadFarm (tx : ByteArray) (w : World) (hg : RG w) :
    Calls Tryd.prog 5 #[.string tx] w fun e w' => e = .returned (.bool true) ∧ Below w.heap.size w w' := by
  have HG := Lib.hid hg
  clear hg
  by_cases hl : tx.size ≤ 1048576
  case neg =>
    go_enter Tryd.func5, Tryd.ntmps5
    go_wp2
    go_ret
    exact ⟨rfl, (by repeat (first | exact Below.refl _ _ | assumption | refine below_drewN ?_ _ | refine below_alloc (Nat.le_refl _) ?_ _ | (refine Below.setCell ?_ (by first | exact Nat.le_refl _ | (simp; done) | (simp; omega) | omega) _) | (refine below_step (Nat.le_refl _) ?_ (by assumption))))⟩
  have H1' := fun W => s_ReadFarm tx hl W
  have H2' := fun W hg => i_ReadFarm tx hl W hg
  obtain ⟨a, l, r, d, s, hx, hy, la, ll⟩ := farmL_parts tx
  obtain ⟨b, hr⟩ : ∃ b, (farmOf tx).isSome = b := ⟨_, rfl⟩
  have hR : ∀ W e W', FarmRd tx W e W' → ∃ q0 q1 c0 c1, e = .returned (.tuple #[farmV (.slice q0 a.length c0) (.slice q1 l.length c1) r d s, .bool b]) ∧ Parts W.heap.size W' [.slice q0 a.length c0, .slice q1 l.length c1] [a, l] ∧ Below W.heap.size W W' := by
    rintro W e W' ⟨va, vl, he, hp, hb⟩
    rw [hr, hy] at he
    rw [hx] at hp
    obtain ⟨r0, r1⟩ := hp.rf2 (by omega) (by omega)
    obtain ⟨q0, c0, rfl, -, -⟩ := r0
    obtain ⟨q1, c1, rfl, -, -⟩ := r1
    exact ⟨q0, q1, c0, c1, he, hp, hb⟩
  have H1 := Lib.hid (fun W => (H1' W).mono fun e W' h => hR W e W' h)
  have H2 := Lib.hid (fun W hg => (H2' W hg).mono fun e W' h => hR W e W' h)
  have HL := Lib.hid (show a.length ≤ 24 ∧ l.length ≤ 24 from ⟨la, ll⟩)
  have HE := Lib.hid (fun va vl ua ul W (h : RF W va a ∧ RF W vl l) (k : RF W ua a ∧ RF W ul l) => l_eqFarm va vl ua ul a l r d s W h.1 h.2 k.1 k.2)
  obtain ⟨N, hN⟩ : ∃ N : Int, ((1 + a.length + l.length : Nat) : Int) = N := ⟨_, rfl⟩
  have HMK : Hid (∀ va vl B W, Parts B W [va, vl] [a, l] → Calls Tryd.prog 17 #[farmV va vl r d s, .int .i64 1] W fun e w' => e = .returned (.int .i64 N) ∧ Parts B w' [va, vl] (marks2 a.length l.length 1) ∧ Far [va, vl] W w') := fun va vl B W h => by
    rw [← hN]; exact l_markFarm va vl a l r d s 1 B W h (by omega) (by omega) (by omega)
  have HHD : Hid (∀ va vl B W, Parts B W [va, vl] (marks2 a.length l.length 1) → Calls Tryd.prog 18 #[farmV va vl r d s, .int .i64 1] W fun e w' => e = .returned (.int .i64 N) ∧ Below W.heap.size W w') := fun va vl B W h => by
    rw [← hN]
    have z := Parts.rf2 (a := marks a.length 1) (l := marks l.length (1 + a.length)) h (by rw [marks_length]; omega) (by rw [marks_length]; omega)
    exact l_heldFarm va vl a.length l.length r d s 1 W z.1 z.2 (by omega) (by omega) (by omega)
  have n2 : ¬ N < 0 := by omega
  have n3 : (N != N) = false := by simp
  clear hx hy la ll hr hR H1' H2' hN
  go_enter Tryd.func5, Tryd.ntmps5
  go_wp2_with fail
  refine (H1.out _).mono ?_
  rintro e w1 ⟨q0, q1, c0, c1, rfl, p1, hb⟩
  have B1 := Lib.hid hb
  have P1 := Lib.hid p1
  clear hb p1
  go_wp2_with fail
  obtain ⟨w2, hw2⟩ : ∃ w2, w2 = w1.alloc (.cells #[.slice q0 a.length c0, .slice q1 l.length c1, .float .f32 r, .float .f32 d, .float .f32 s] 37) := ⟨_, rfl⟩
  have B2 : Hid (Below w.heap.size w w2) := by rw [hw2]; exact below_alloc (Nat.le_refl _) B1.out _
  have V2 : Hid (Held w.heap.size w2 w1.heap.size (.slice q0 a.length c0) (.slice q1 l.length c1) r d s [a, l]) := by
    rw [hw2]; exact ⟨P1.out.below (below_alloc (Nat.le_refl _) (Below.refl _ _) _), farm_top w1 _ rfl _ _ _ _ _ _⟩
  rw [← hw2]
  clear hw2
  generalize w1.heap.size = g3 at *
  refine (H2.out _ (HG.out.below B2.out)).mono ?_
  rintro e w3 ⟨s0, s1, d0, d1, rfl, u3, hb⟩
  have B3 := Lib.hid (below_step (Nat.le_refl _) B2.out hb)
  have V3 := Lib.hid (V2.out.below hb)
  have U3 := Lib.hid u3
  have HLE := Lib.hid B2.out.size
  have HD : Hid (∀ u ∈ [Value.slice s0 a.length d0, .slice s1 l.length d1], ∀ v ∈ [Value.slice q0 a.length c0, .slice q1 l.length c1], Dis u v) := fun u hu v hv k h1 h2 => by
    have := (Parts.lt u3 u hu k h1).1
    have := (Parts.lt V2.out.parts v hv k h2).2
    omega
  have HG3 : Hid (∀ u ∈ [Value.slice s0 a.length d0, .slice s1 l.length d1], u.ownBlock ≠ some g3) := fun u hu h => by
    have := (Parts.lt u3 u hu g3 h).1
    have : g3 < w2.heap.size := block_lt_of_cell V2.out.at'.1
    omega
  have HG5 : Hid (∀ u ∈ [Value.slice s0 a.length d0, .slice s1 l.length d1], u.ownBlock ≠ some w3.heap.size) := fun u hu h => by
    have := (Parts.lt u3 u hu _ h).2
    omega
  have hbase := Lib.hid (show ∀ u ∈ [Value.slice s0 a.length d0, .slice s1 l.length d1], ∀ k, u.ownBlock = some k → w.heap.size ≤ k from fun u hu k h => Nat.le_trans HLE.out (Parts.lt u3 u hu k h).1)
  clear u3 hb V2 B2 B1 P1
  obtain ⟨k0, k1, k2, k3, k4⟩ := V3.out.at'.below (below_alloc (Nat.le_refl _) (Below.refl _ _) (.cells #[.slice s0 a.length d0, .slice s1 l.length d1, .float .f32 r, .float .f32 d, .float .f32 s] 37))
  go_wp2_with fail
  obtain ⟨w4, hw4⟩ : ∃ w4, w4 = w3.alloc (.cells #[.slice s0 a.length d0, .slice s1 l.length d1, .float .f32 r, .float .f32 d, .float .f32 s] 37) := ⟨_, rfl⟩
  have h34 : Below w3.heap.size w3 w4 := by rw [hw4]; exact below_alloc (Nat.le_refl _) (Below.refl _ _) _
  have B4 := Lib.hid (below_step (Nat.le_refl _) B3.out h34)
  have V4 := Lib.hid (V3.out.below h34)
  have U4 : Hid (Held w2.heap.size w4 w3.heap.size (.slice s0 a.length d0) (.slice s1 l.length d1) r d s [a, l]) := ⟨U3.out.below h34, by rw [hw4]; exact farm_top w3 _ rfl _ _ _ _ _ _⟩
  rw [← hw4]
  clear hw4 h34 k0 k1 k2 k3 k4 V3 U3 B3
  generalize w3.heap.size = g5 at *
  refine (HE.out _ _ _ _ w4 (U4.out.parts.rf2 (by have := HL.out; omega) (by have := HL.out; omega)) (V4.out.parts.rf2 (by have := HL.out; omega) (by have := HL.out; omega))).mono ?_
  rintro e w5 ⟨rfl, hb⟩
  have B5 := Lib.hid (below_step (Nat.le_refl _) B4.out hb)
  have V5 := Lib.hid (V4.out.below hb)
  have U5 := Lib.hid (U4.out.below hb)
  clear hb B4 V4 U4
  have hrr : (b != b) = false := by cases b <;> rfl
  obtain ⟨k0, k1, k2, k3, k4⟩ := U5.out.at'
  go_wp2_with fail
  refine (HMK.out _ _ _ _ U5.out.parts).mono ?_
  rintro e w6 ⟨rfl, u6, f6⟩
  have B6 : Hid (Below w.heap.size w w6) := B5.out.trans (f6.below B5.out.size hbase.out)
  have V6 : Hid (Held w.heap.size w6 g3 (.slice q0 a.length c0) (.slice q1 l.length c1) r d s [a, l]) := ⟨f6.parts V5.out.parts HD.out, f6.cell V5.out.at'.1 HG3.out, f6.cell V5.out.at'.2.1 HG3.out, f6.cell V5.out.at'.2.2.1 HG3.out, f6.cell V5.out.at'.2.2.2.1 HG3.out, f6.cell V5.out.at'.2.2.2.2 HG3.out⟩
  have U6 : Hid (Held w2.heap.size w6 g5 (.slice s0 a.length d0) (.slice s1 l.length d1) r d s (marks2 a.length l.length 1)) := ⟨u6, f6.cell U5.out.at'.1 HG5.out, f6.cell U5.out.at'.2.1 HG5.out, f6.cell U5.out.at'.2.2.1 HG5.out, f6.cell U5.out.at'.2.2.2.1 HG5.out, f6.cell U5.out.at'.2.2.2.2 HG5.out⟩
  clear u6 f6 B5 V5 U5 k0 k1 k2 k3 k4
  obtain ⟨k0, k1, k2, k3, k4⟩ := U6.out.at'
  go_wp2_with fail
  refine (HHD.out _ _ _ _ U6.out.parts).mono ?_
  rintro e w7 ⟨rfl, hb⟩
  have B7 := Lib.hid (below_step (Nat.le_refl _) B6.out hb)
  have V7 := Lib.hid (V6.out.below hb)
  have U7 := Lib.hid (U6.out.below hb)
  clear hb B6 V6 U6 k0 k1 k2 k3 k4
  go_wp2_with fail
  refine (H2.out _ (HG.out.below B7.out)).mono ?_
  rintro e w8 ⟨t0, t1, f0, f1, rfl, y8, hb⟩
  have B8 := Lib.hid (below_step (Nat.le_refl _) B7.out hb)
  have V8 := Lib.hid (V7.out.below hb)
  have U8 := Lib.hid (U7.out.below hb)
  have Y8 := Lib.hid y8
  clear hb y8 B7 V7 U7
  obtain ⟨k0, k1, k2, k3, k4⟩ := V8.out.at'.below (below_alloc (Nat.le_refl _) (Below.refl _ _) (.cells #[.slice t0 a.length f0, .slice t1 l.length f1, .float .f32 r, .float .f32 d, .float .f32 s] 37))
  go_wp2_with fail
  obtain ⟨w9, hw9⟩ : ∃ w9, w9 = w8.alloc (.cells #[.slice t0 a.length f0, .slice t1 l.length f1, .float .f32 r, .float .f32 d, .float .f32 s] 37) := ⟨_, rfl⟩
  have h89 : Below w8.heap.size w8 w9 := by rw [hw9]; exact below_alloc (Nat.le_refl _) (Below.refl _ _) _
  have B9 := Lib.hid (below_step (Nat.le_refl _) B8.out h89)
  have V9 := Lib.hid (V8.out.below h89)
  have U9 := Lib.hid (U8.out.below h89)
  have Y9 := Lib.hid (Y8.out.below h89)
  rw [← hw9]
  clear hw9 h89 k0 k1 k2 k3 k4 V8 U8 B8 Y8
  refine (HE.out _ _ _ _ w9 (Y9.out.rf2 (by have := HL.out; omega) (by have := HL.out; omega)) (V9.out.parts.rf2 (by have := HL.out; omega) (by have := HL.out; omega))).mono ?_
  rintro e w10 ⟨rfl, hb⟩
  have B10 := Lib.hid (below_step (Nat.le_refl _) B9.out hb)
  have U10 := Lib.hid (U9.out.below hb)
  clear hb B9 V9 U9 Y9
  obtain ⟨k0, k1, k2, k3, k4⟩ := U10.out.at'
  go_wp2_with fail
  refine (HHD.out _ _ _ _ U10.out.parts).mono ?_
  rintro e w11 ⟨rfl, hb⟩
  have B11 := Lib.hid (below_step (Nat.le_refl _) B10.out hb)
  clear hb B10 U10 k0 k1 k2 k3 k4
  go_wp2
  go_ret
  exact ⟨rfl, B11.out⟩
theorem RG_of_laidF {W : World} (h : laidMetH Tryd.prog Rows.fnExactReadFarmRow.laid W) (hsh : W.ShapedOpen Tryd.prog) : RG W := by
  rw [MakeChecks.laidMetH_plain _ _ _ (by kernel_rfl)] at h
  refine ⟨?_, ?_, Tryd.laysM146.s1_3 W hsh, ?_⟩
  · exact err_of_head (g := 1) (t := 71) (by kernel_rfl) (by kernel_rfl) Tryd.underlying71 h.tail.tail.tail.tail.tail
  · exact err_of_head (g := 2) (t := 71) (by kernel_rfl) (by kernel_rfl) Tryd.underlying71 h.tail.tail.tail.tail
  · exact Lib.tabIs_of_head (g := 8) (t := 148) (e := 5) (n := 64) (rest := _) (by kernel_rfl) (by kernel_rfl) (by kernel_rfl) (by kernel_rfl) (by kernel_rfl) (by kernel_rfl) h.tail
set_option maxRecDepth 100000 in
theorem FnExactReadFarm_lifted (os : Os) (started : os.Started) (H : Type) (enc : TypeId × Value → H) :
    ReturnsInHanded {} Tryd.checked os 5 .any (fun w args => (Rows.fnExactReadFarmSpec.pre enc Tryd.prog Tryd.f5 [] false w args ∧ laidMetH Tryd.prog Rows.fnExactReadFarmRow.laid w) ∧ sizedMet enc Tryd.prog Tryd.f5 (OpenSpec.ofChange Rows.fnExactReadFarmSpec) false w args)
      (Rows.fnExactReadFarmSpec.post enc Tryd.prog Tryd.f5 false true false false) := by
  refine handed_laid_shaped (C := Tryd.checked) (X := fun w _ => laidMetH Tryd.prog Rows.fnExactReadFarmRow.laid w) (fun _ _ _ hh h => h.of_heap hh) Tryd.own started (by kernel_rfl) Tryd.func5
    (ChangeSpec.witness_shaped (enc := enc) (C := Tryd.checked) (os := os) (X := fun w _ => laidMetH Tryd.prog Rows.fnExactReadFarmRow.laid w) false (World.laidAll Tryd.prog os Rows.fnExactReadFarmRow.laid) #[.string ByteArray.empty] 8 (World.laidAll_os _ _ _)
      (World.shaped_of_ZipB (by kernel_rfl) (by kernel_rfl)) (by kernel_rfl) (by kernel_rfl) (by kernel_rfl)
      (by rw [MakeChecks.laidMetH_plain _ _ _ (by kernel_rfl)]; exact laidMet_laidAll _ (by kernel_rfl) (by kernel_rfl))) ?_
  intro W base args ds gs before hval0 hW _ _ hX hsh _
  have hval : ∀ (j : Nat) t v, Tryd.f5.params[j]? = some t → args[j]? = some v → Value.okWide Tryd.prog W .any base t v := hval0
  have hW' := hW
  obtain ⟨p, q, hA0, hV, rfl, hfz, hnd⟩ := hW
  have hA : DataW.TrodAll enc Tryd.prog W 0 (fun _ => true) true Tryd.f5.params.toList args.toList ds p := hA0
  rw [Tryd.params5] at hA hval
  obtain ⟨rfl, rfl⟩ := trodVars_none hV
  obtain ⟨v0, vs0, d0, ds0, p0, q0, ha0, rfl, rfl, h0, r0⟩ := trodAll_cons hA
  obtain ⟨rfl, rfl, rfl⟩ := trodAll_nil r0
  obtain rfl : args = #[v0] := by apply Array.ext'; exact ha0
  obtain ⟨s, rfl, -, -, -⟩ := Go.ChangeMaps.open_string Tryd.underlying9 (hval 0 9 v0 rfl rfl) h0
  refine (l_FnExactReadFarm s W (RG_of_laidF hX hsh)).mono fun e W' ⟨he, hb⟩ => ?_
  subst he
  exact ⟨_, rfl, post_law Tryd.laidOut (by as_aux_lemma => kernel_rfl) rfl Tryd.underlying4 hW' rfl ⟨rfl, rfl, rfl⟩ hb⟩

theorem FnExactReadFarm_row : Rows.FnExactReadFarmSaid :=
  OpenClaim.holds_of_wide 5 Tryd.f5 rfl rfl rfl rfl rfl rfl rfl ⟨rfl, rfl, rfl, rfl, rfl⟩ rfl rfl rfl rfl rfl (by as_aux_lemma => kernel_rfl) Tryd.func5 (by as_aux_lemma => kernel_rfl)
    (of_decide_eq_true (by as_aux_lemma => kernel_rfl)) (by unfold Func.isWrapper; rw [if_neg (of_decide_eq_false (by as_aux_lemma => kernel_rfl))]; exact ⟨rfl, rfl⟩)
    (fun os started H enc _ => FnExactReadFarm_lifted os started H enc)

theorem FnExactReadFarm_holds : Rows.FnExactReadFarmCardSaid :=
  Claim7.holds_tied_plain_at .later [] Rows.fnExactReadFarmCard.laidKinds true Rows.fnExactReadFarmCard.stood.harness true
    FnExactReadFarm_row (fun _ h => by cases h) (by kernel_rfl) (fun _ h => by cases h) fnExactReadFarm_row_tie rfl ⟨rfl, rfl⟩ (by kernel_rfl) rfl
    (fun f fn hf hfn => by
      obtain rfl : f = 5 := Option.some.inj ((show Tryd.prog.funcNamed "loop.example/g01256/laws.FnExactReadFarm" = some 5 by kernel_rfl).symm.trans hf) |>.symm
      obtain rfl : fn = Tryd.f5 := (Option.some.inj (Tryd.func5.symm.trans hfn)).symm
      exact ⟨by kernel_rfl, fun j t ht => by
        rw [Tryd.params5] at ht
        have hm : t ∈ [9] := by simpa using Array.mem_of_getElem? ht
        have hall : ([9].all fun u => !Tryd.prog.wantsStandIn u) = true := by kernel_rfl
        exact (show Tryd.prog.wantsStandIn t = false by simpa using List.all_eq_true.1 hall t hm)⟩)
    (by kernel_rfl)
end Go.Proofs.YtpkkgfjjnggijaaDoor
