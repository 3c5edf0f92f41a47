/- Walks: lists of lists of numbers: weighed, copied, held against each other, marked. -/
import Derived.Test.YtmpajgpnbiaoiaaCI
import Derived.Test.YtmpajgpnbiaoiaaR
namespace Go.Proofs.Ytmpajgpnbiaoiaa
set_option linter.unusedSimpArgs false
set_option linter.unusedVariables false
open Go.RowKit Go.Fl

/-- Rows that are read as lists of numbers. -/
def RL (w : World) (us : List Value) (xss : List (List Nat)) : Prop := us.length = xss.length ∧ ∀ i (h1 : i < us.length) (h2 : i < xss.length), RF w us[i] xss[i]
def RFF (w : World) (v : Value) (us : List Value) (xss : List (List Nat)) : Prop := Sl w v us.length us ∧ RL w us xss
theorem RL_below {w w' : World} {us : List Value} {xss : List (List Nat)} (h : RL w us xss) (hb : Below w.heap.size w w') : RL w' us xss := ⟨h.1, fun i h1 h2 => RF_below (h.2 i h1 h2) hb⟩
theorem RFF_below {w w' : World} {v : Value} {us : List Value} {xss : List (List Nat)} (h : RFF w v us xss) (hb : Below w.heap.size w w') : RFF w' v us xss := ⟨Sl.below h.1 (.inr trivial) hb (Nat.le_refl _), RL_below h.2 hb⟩
/-- .. that are a call's own, their blocks in S .. T. -/
structure OFF (S T : Nat) (w : World) (u : Value) (us : List Value) (xss : List (List Nat)) : Prop where
  len : us.length = xss.length
  row : w.ownsRow S 32 1 u us.length us
  inner : ∀ i (h1 : i < us.length) (h2 : i < xss.length), OF S w us[i] xss[i]
  apart : ∀ i j (h1 : i < us.length) (h2 : j < us.length), i ≠ j → Dis us[i] us[j]
  out : ∀ i (h1 : i < us.length), Dis u us[i]
  top : (∀ k, u.ownBlock = some k → k < T) ∧ ∀ i (h1 : i < us.length) k, us[i].ownBlock = some k → k < T
theorem OFF.below {S T : Nat} {w w' : World} {u : Value} {us : List Value} {xss : List (List Nat)} (h : OFF S T w u us xss) (hb : Below w.heap.size w w') : OFF S T w' u us xss :=
  ⟨h.len, ownsRow_below h.row hb, fun i h1 h2 => OF_below (h.inner i h1 h2) hb, h.apart, h.out, h.top⟩
theorem OFF.read {S T : Nat} {w : World} {u : Value} {us : List Value} {xss : List (List Nat)} (h : OFF S T w u us xss) (hl : us.length ≤ 1048576) (hi : ∀ xs ∈ xss, xs.length ≤ 1048576) : RFF w u us xss :=
  ⟨Sl_of_own h.row (by omega), h.len, fun i h1 h2 => RF_of_own (h.inner i h1 h2) (by have := hi _ (List.getElem_mem h2); omega)⟩
/-- Only blocks in S .. T are other ones, or new. -/
structure Only (S T : Nat) (w w' : World) : Prop where
  os : w'.os = w.os
  tape : w'.tape = w.tape
  output : w'.output = w.output
  size : w.heap.size ≤ w'.heap.size
  block : ∀ k, k < w.heap.size → (k < S ∨ T ≤ k) → w'.heap[k]? = w.heap[k]?
theorem Only.refl (S T : Nat) (w : World) : Only S T w w := ⟨rfl, rfl, rfl, Nat.le_refl _, fun _ _ _ => rfl⟩
theorem Only.trans {S T : Nat} {w w1 w2 : World} (h : Only S T w w1) (k : Only S T w1 w2) : Only S T w w2 :=
  ⟨k.os.trans h.os, k.tape.trans h.tape, k.output.trans h.output, Nat.le_trans h.size k.size, fun i hi ho => (k.block i (Nat.lt_of_lt_of_le hi h.size) ho).trans (h.block i hi ho)⟩
theorem Only.of_grown {S T : Nat} {w w' : World} {r : Option Nat} (h : w.grownBy w' r) (hr : ∀ k, r = some k → S ≤ k ∧ k < T) : Only S T w w' :=
  ⟨h.os, h.tape, h.output, h.size, fun i hi ho => h.block i hi fun e => by have := hr i e.symm; omega⟩
theorem Only.below {S T B : Nat} {w w' : World} (h : Only S T w w') (hB : B ≤ S) (hw : B ≤ w.heap.size) : Below B w w' :=
  ⟨h.os, h.tape, h.output, h.size, fun i hi => h.block i (by omega) (.inl (by omega))⟩
theorem Only.own {S T B : Nat} {w w' : World} {v : Value} {n : Nat} {cs : List Value} {e : TypeId} {s : Nat} (h : Only S T w w') (ho : w.ownsRow B e s v n cs) (hv : ∀ k, v.ownBlock = some k → k < S ∨ T ≤ k) : w'.ownsRow B e s v n cs := by
  obtain ⟨hlen, hc⟩ := id ho
  refine ⟨hlen, ?_⟩
  rcases hc with hc | ⟨g, cap, cur, rfl, hB, hg, rest⟩
  · exact .inl hc
  · exact .inr ⟨g, cap, cur, rfl, hB, (h.block g (lt_of_block hg) (hv g rfl)).trans hg, rest⟩
/-- The cells of a row of which the first ones are written. -/
def partV (vs : List Value) (n : Nat) : List Value := vs ++ List.replicate (n - vs.length) (.slice none 0 0)
theorem partV_set (vs : List Value) (n : Nat) (u : Value) (h : vs.length < n) : (partV vs n).set vs.length u = partV (vs ++ [u]) n := by
  unfold partV
  rw [List.set_append_right _ _ (Nat.le_refl _), Nat.sub_self, show n - vs.length = (n - (vs ++ [u]).length) + 1 by simp; omega, List.replicate_succ, List.set_cons_zero]
  simp
theorem partV_length (vs : List Value) (n : Nat) (h : vs.length ≤ n) : (partV vs n).length = n := by unfold partV; simp; omega
theorem partV_all (vs : List Value) (n : Nat) (h : vs.length = n) : partV vs n = vs := by unfold partV; simp [h]
theorem partV_zero (n : Nat) : (madeCells #[Value.slice none 0 0] n).toList = partV [] n := by
  rw [toList_madeCells_one]; simp [partV]
set_option maxHeartbeats 1000000 in
theorem l_toFloat32SS (v : Value) (us : List Value) (xss : List (List Nat)) (w : World) (hx : RFF w v us xss) (hl : us.length ≤ 1048576) (hi : ∀ xs ∈ xss, xs.length ≤ 1048576) :
    Calls Try.prog 19 #[v] w fun e w' => ∃ u vs, e = .returned u ∧ OFF w.heap.size w'.heap.size w' u vs xss ∧ Below w.heap.size w w' := by
  obtain ⟨⟨p1, cap1, rfl, hm1, hc1⟩, hlen, hrl⟩ := hx
  have HRL := Lib.hid hrl
  have HI := Lib.hid hi
  have HLEN := Lib.hid hlen
  clear hrl hi hlen
  have hmk := run_make_row' (P := Try.prog) 37 32 (.slice none 0 0) 24 Try.underlying37 (by kernel_rfl) rfl .i64 .i64 us.length (by omega) (by omega)
  have hstart := World.ownsRow_lit (base := w.heap.size) (e := 32) (size := 1) w (madeCells #[Value.slice none 0 0] us.length) us.length (Nat.le_refl _) (by unfold maxLen; omega) (by rw [size_madeCells, Nat.mul_one])
  rw [partV_zero] at hstart
  have Hs := Lib.hid hstart
  clear hstart
  obtain ⟨B, hB⟩ : ∃ B, B = w.heap.size := ⟨_, rfl⟩
  have HB := Lib.hid hB
  go_enter Try.func19, Try.ntmps19
  go_wp2_with fail
  rw [← hB]
  clear hB hmk
  go_loopw [4] (fun i wr => ∃ vs : List Value, vs.length ≤ us.length ∧ i = .int .i64 vs.length ∧ wr.ownsRow B 32 1 (.slice (some ⟨B, 0, none⟩) us.length us.length) us.length (partV vs us.length) ∧ Below B w wr ∧
      Hid (∀ i (h1 : i < vs.length) (h2 : i < xss.length), OF B wr vs[i] xss[i]) ∧ Hid (∀ i j (h1 : i < vs.length) (h2 : j < vs.length), i ≠ j → Dis vs[i] vs[j]) ∧ Hid (∀ i (h1 : i < vs.length), Dis (.slice (some ⟨B, 0, none⟩) us.length us.length) vs[i])) (fun i _ => us.length - (intOf i).toNat)
  case atStart => exact ⟨[], Nat.zero_le _, rfl, by rw [HB.out]; exact Hs.out, by rw [HB.out]; exact (by repeat (first | exact Below.refl _ _ | assumption | refine below_drewN ?_ _ | refine below_alloc (Nat.le_refl _) ?_ _ | (refine Below.setCell ?_ (by first | exact Nat.le_refl _ | (simp; done) | (simp; omega) | omega) _) | (refine below_step (Nat.le_refl _) ?_ (by assumption)))), fun i h => absurd h (Nat.not_lt_zero _), fun i j h => absurd h (Nat.not_lt_zero _), fun i h => absurd h (Nat.not_lt_zero _)⟩
  case round =>
    obtain ⟨vs, hk, rfl, hown, hb, hin, hap, hou⟩ := hrel
    by_cases hlt : vs.length < us.length
    · obtain ⟨b, off, rfl, hcell⟩ := hc1.resolve_left (by omega)
      have h0 : w.cell? ⟨b, off + vs.length, none⟩ = some us[vs.length] := hcell _ _ (by simp [hlt])
      have h1 : wr.cell? ⟨b, off + vs.length, none⟩ = some us[vs.length] := (hb.cell (p := ⟨b, off + vs.length, none⟩) (by rw [HB.out]; exact block_lt_of_cell h0)).trans h0
      have hxl : vs.length < xss.length := by have := HLEN.out; omega
      have HR : Hid (RF wr us[vs.length] xss[vs.length]) := RF_below (HRL.out _ hlt hxl) (by rw [← HB.out]; exact hb)
      have hil := HI.out _ (List.getElem_mem hxl)
      have HO := Lib.hid hown
      have Hb := Lib.hid hb
      have hpl := partV_length vs us.length hk
      clear hcell hc1 h0 hown hb
      have hsl : ∃ p n c, us[vs.length] = .slice p n c := by obtain ⟨p, c, e, _⟩ := HR.out; exact ⟨p, _, c, e⟩
      generalize us[vs.length] = ui at *
      obtain ⟨pp, nn, cc, rfl⟩ := hsl
      go_wp2_with fail
      refine (l_toFloat32S _ _ _ HR.out hil).mono ?_
      rintro e w1 ⟨u, rfl, O, hb⟩
      obtain ⟨pu, cu, hu, -, -⟩ := RF_of_own O (by omega)
      generalize xss[vs.length].length = nu at hu
      subst hu
      have hle : B ≤ wr.heap.size := by rw [HB.out]; exact Hb.out.size
      have hown := ownsRow_below HO.out hb
      have hin1 : ∀ i (h1 : i < vs.length) (h2 : i < xss.length), OF B w1 vs[i] xss[i] := fun i h1 h2 => OF_below (hin.out i h1 h2) hb
      have hD1 : Dis (.slice (some ⟨B, 0, none⟩) us.length us.length) (.slice pu nu cu) := dis_of HO.out (Nat.le_refl _) O
      have hD2 : ∀ i (h1 : i < vs.length), Dis vs[i] (.slice pu nu cu) := fun i h1 => dis_of (hin.out i h1 (by have := HLEN.out; omega)) (Nat.le_refl _) O
      have hOB : OF B w1 (.slice pu nu cu) xss[vs.length] := by
        obtain ⟨q1, q2⟩ := O
        exact ⟨q1, q2.imp id fun ⟨g, cap, cur, he, hbb, hr⟩ => ⟨g, cap, cur, he, Nat.le_trans hle hbb, hr⟩⟩
      have h2 : w1.cell? ⟨B, vs.length, none⟩ = some (.slice none 0 0) := by rw [hown.cellAt vs.length (by omega)]; unfold partV; rw [List.getElem?_append_right (Nat.le_refl _), Nat.sub_self, List.getElem?_replicate, if_pos (by omega)]
      have h3 : w1.frozen? ⟨B, vs.length, none⟩ = false := hown.frozenAt vs.length
      have h4 := hown.stored vs.length (.slice pu nu cu)
      rw [partV_set vs us.length _ hlt] at h4
      have H4 := Lib.hid h4
      have Hin : Hid (∀ i (h1 : i < (vs ++ [Value.slice pu nu cu]).length) (h2 : i < xss.length), OF B (w1.setCell ⟨B, vs.length, none⟩ (.slice pu nu cu)) (vs ++ [Value.slice pu nu cu])[i] xss[i]) := fun i h1 h2 => by
        by_cases e : i < vs.length
        · rw [List.getElem_append_left e]
          exact kept_dis (u := .slice (some ⟨B, 0, none⟩) us.length us.length) (hin1 i e h2) H4.out.2 (hou.out i e)
        · have e' : i = vs.length := by simp at h1; omega
          subst e'
          simp only [List.getElem_append_right (Nat.le_refl _), Nat.sub_self, List.getElem_cons_zero]
          exact kept_dis (u := .slice (some ⟨B, 0, none⟩) us.length us.length) hOB H4.out.2 hD1
      have Hap : Hid (∀ i j (h1 : i < (vs ++ [Value.slice pu nu cu]).length) (h2 : j < (vs ++ [Value.slice pu nu cu]).length), i ≠ j → Dis (vs ++ [Value.slice pu nu cu])[i] (vs ++ [Value.slice pu nu cu])[j]) := fun i j h1 h2 hne => by
        simp only [List.length_append, List.length_cons, List.length_nil] at h1 h2
        by_cases e1 : i < vs.length <;> by_cases e2 : j < vs.length
        · rw [List.getElem_append_left e1, List.getElem_append_left e2]; exact hap.out i j e1 e2 hne
        · obtain rfl : j = vs.length := by omega
          rw [List.getElem_append_left e1]
          simp only [List.getElem_append_right (Nat.le_refl _), Nat.sub_self, List.getElem_cons_zero]
          exact hD2 i e1
        · obtain rfl : i = vs.length := by omega
          rw [List.getElem_append_left e2]
          simp only [List.getElem_append_right (Nat.le_refl _), Nat.sub_self, List.getElem_cons_zero]
          exact (hD2 j e2).symm
        · omega
      have Hou : Hid (∀ i (h1 : i < (vs ++ [Value.slice pu nu cu]).length), Dis (.slice (some ⟨B, 0, none⟩) us.length us.length) (vs ++ [Value.slice pu nu cu])[i]) := fun i h1 => by
        simp only [List.length_append, List.length_cons, List.length_nil] at h1
        by_cases e1 : i < vs.length
        · rw [List.getElem_append_left e1]; exact hou.out i e1
        · obtain rfl : i = vs.length := by omega
          simp only [List.getElem_append_right (Nat.le_refl _), Nat.sub_self, List.getElem_cons_zero]
          exact hD1
      have HB1 : Hid (Below B w w1) := Below.trans Hb.out ⟨hb.os, hb.tape, hb.output, hb.size, fun k hk => hb.block k (by omega)⟩
      clear hown hb h4 hin hap hou hin1 hD1 hD2 hOB O HO Hb HR
      go_wp2
      go_roundw
      case rel => exact ⟨vs ++ [Value.slice pu nu cu], by simp only [List.length_append, List.length_cons, List.length_nil]; omega, by simp, H4.out.1, HB1.out.setCell (Nat.le_refl _) _, Hin, Hap, Hou⟩
      case measure => simp [intOf]; omega
    · have hle : vs.length = us.length := by omega
      have hown' : wr.ownsRow B 32 1 (.slice (some ⟨B, 0, none⟩) us.length us.length) us.length vs := by rw [← partV_all vs us.length hle]; exact hown
      have HF : Hid (OFF B wr.heap.size wr (.slice (some ⟨B, 0, none⟩) us.length us.length) vs xss) := ⟨by have := HLEN.out; omega, by rw [hle]; exact hown', hin.out, hap.out, hou.out, fun k hk => (hown'.lt k hk).2, fun i h1 k hk => ((hin.out i h1 (by have := HLEN.out; omega)).lt k hk).2⟩
      clear hown hown' hin hap hou
      go_wp2
      go_ret
      exact ⟨_, vs, rfl, by rw [← HB.out]; exact HF.out, by rw [← HB.out]; exact hb⟩
set_option maxHeartbeats 1000000 in
theorem l_eqFloat32SS (v v' : Value) (us us' : List Value) (xss : List (List Nat)) (w : World) (hx : RFF w v us xss) (hy : RFF w v' us' xss) :
    Calls Try.prog 22 #[v, v'] w fun e w' => e = .returned (.bool true) ∧ ∃ n, w' = w.drewN n := by
  obtain ⟨⟨p1, cap1, rfl, hm1, hc1⟩, hlen1, hrl1⟩ := hx
  obtain ⟨⟨p2, cap2, rfl, hm2, hc2⟩, hlen2, hrl2⟩ := hy
  have hll : us'.length = us.length := by omega
  have HL1 := Lib.hid hrl1
  have HL2 := Lib.hid hrl2
  have HLEN := Lib.hid hlen1
  have HLL := Lib.hid hll
  rw [hll] at hm2 hc2 ⊢
  clear hlen1 hlen2 hrl1 hrl2 hll
  go_enter Try.func22, Try.ntmps22
  go_wp2_with fail
  go_loopw [5] (fun i wr => ∃ k n : Nat, k ≤ us.length ∧ i = .int .i64 k ∧ wr = w.drewN n) (fun i _ => us.length - (intOf i).toNat)
  case atStart => exact ⟨0, 0, Nat.zero_le _, rfl, rfl⟩
  case round =>
    obtain ⟨k, n, hk, rfl, rfl⟩ := hrel
    by_cases hlt : k < us.length
    · obtain ⟨b1, o1, rfl, hcell1⟩ := hc1.resolve_left (by omega)
      obtain ⟨b2, o2, rfl, hcell2⟩ := hc2.resolve_left (by omega)
      have hlt2 : k < us'.length := by have := HLL.out; omega
      have hltx : k < xss.length := by have := HLEN.out; omega
      have h1 : w.cell? ⟨b1, o1 + k, none⟩ = some us[k] := hcell1 k _ (by simp [hlt])
      have h2 : w.cell? ⟨b2, o2 + k, none⟩ = some us'[k] := hcell2 k _ (by simp [hlt2])
      have HE := Lib.hid (fun m => l_eqFloat32S us[k] us'[k] xss[k] xss[k] ((w.drewN n).drewN m) (HL1.out k hlt hltx) (HL2.out k hlt2 hltx) (FEq.refl _))
      obtain ⟨q1, c1, e1, -⟩ := HL1.out k hlt hltx
      obtain ⟨q2, c2, e2, -⟩ := HL2.out k hlt2 hltx
      rw [e1] at h1 HE
      rw [e2] at h2 HE
      clear hcell1 hcell2 hc1 hc2 e1 e2
      generalize xss[k].length = m at *
      go_wp2_with fail
      ((refine wp_region_rq_lit (fun _ _ u => u = .bool true) (by kernel_rfl) (by kernel_rfl) ?_); (iterate 8 (refine wpRq_det' (by kernel_rfl) (fun K hK => ?_); go_simp; refine hK _ ?_; clear hK K)); (refine wpRq_call2 (f := 16) (X := .slice q1 m c1) (Y := .slice q2 m c2) rfl (by kernel_rfl) rfl rfl (run_enter Try.func16 (by kernel_rfl) rfl) (fun x => (HE.out _).mono (fun e w' ⟨he, hn⟩ => ⟨_, he, rfl, hn⟩)) ?_; intro v hv; subst hv); (refine wpRq_det' (by kernel_rfl) (fun K hK => ?_); go_simp; refine hK _ ?_; clear hK K); (refine wpRq_nil ?_); intro nq)
      go_wp2
      go_roundw
      case rel => exact ⟨k + 1, _, by omega, by go_num, rfl⟩
      case measure => simp [intOf]; omega
    · go_wp2
      go_ret
      exact ⟨rfl, _, rfl⟩
theorem l_szFloat32S (p : Option Addr) (n cap : Nat) (left : Int) (h0 : 0 ≤ left) (h1 : left ≤ 1048576) (hn : n ≤ 9223372036854775807) (w : World) :
    Calls Try.prog 49 #[.slice p n cap, .int .i64 left] w fun e w' => e = .returned (.int .i64 (if left - n < 0 then -1 else left - n)) ∧ ∃ n, w' = w.drewN n := by
  by_cases h : left - n < 0
  all_goals
    go_enter Try.func49, Try.ntmps49
    go_wp2
    go_ret
    exact ⟨by simp [h], 0, rfl⟩
/-- Rows of whatever length. -/
def RFFw (w : World) (v : Value) (us : List Value) (xss : List (List Nat)) : Prop := (∃ p cap, v = .slice p us.length cap ∧ us.length ≤ maxLen ∧ (us.length = 0 ∨ ∃ b off, p = some ⟨b, off, none⟩ ∧ ∀ j u, us[j]? = some u → w.cell? ⟨b, off + j, none⟩ = some u)) ∧
  us.length = xss.length ∧ ∀ i (h1 : i < us.length) (h2 : i < xss.length), ∃ p cap, us[i] = .slice p xss[i].length cap ∧ xss[i].length ≤ maxLen ∧ (xss[i].length = 0 ∨ ∃ b off, p = some ⟨b, off, none⟩ ∧ ∀ j u, (xss[i].map (Value.float .f32))[j]? = some u → w.cell? ⟨b, off + j, none⟩ = some u)
/-- How many numbers the first rows hold. -/
def totL (xss : List (List Nat)) : Nat → Nat
  | 0 => 0
  | k + 1 => totL xss k + (xss[k]?.getD []).length
theorem totL_succ (xss : List (List Nat)) (k : Nat) (hk : k < xss.length) : totL xss (k + 1) = totL xss k + xss[k].length := by
  show _ + _ = _
  rw [List.getElem?_eq_getElem hk]; rfl
theorem RFF_of_w {w : World} {v : Value} {us : List Value} {xss : List (List Nat)} (h : RFFw w v us xss) (hl : us.length ≤ 1048576) (hi : ∀ xs ∈ xss, xs.length ≤ 1048576) : RFF w v us xss := by
  obtain ⟨⟨p, cap, e, _, hc⟩, hlen, hr⟩ := h
  refine ⟨⟨p, cap, e, by omega, hc⟩, hlen, fun i h1 h2 => ?_⟩
  obtain ⟨q, c, e2, _, hc2⟩ := hr i h1 h2
  exact ⟨q, c, e2, by have := hi _ (List.getElem_mem h2); omega, hc2⟩
theorem all_idx {xss : List (List Nat)} {p : List Nat → Prop} (h : ∀ j (hj : j < xss.length), p xss[j]) : ∀ xs ∈ xss, p xs := fun s hs => by
  obtain ⟨j, hj⟩ := List.mem_iff_getElem?.1 hs
  obtain ⟨h3, rfl⟩ := List.getElem?_eq_some_iff.1 hj
  exact h j h3
set_option maxHeartbeats 1000000 in
theorem l_szFloat32SS (v : Value) (us : List Value) (xss : List (List Nat)) (w : World) (hx : RFFw w v us xss) :
    Calls Try.prog 17 #[v, .int .i64 1048576] w fun e w' => (∃ r : Int, e = .returned (.int .i64 r) ∧ (0 ≤ r → us.length ≤ 1048576 ∧ totL xss us.length ≤ 1048576 ∧ ∀ xs ∈ xss, xs.length ≤ 1048576)) ∧ ∃ n, w' = w.drewN n := by
  obtain ⟨⟨p1, cap1, rfl, hm1', hc1⟩, hlen, hrl⟩ := hx
  have hm1 : us.length ≤ 9223372036854775807 := by unfold maxLen at hm1'; omega
  have HLEN := Lib.hid hlen
  have HRL := Lib.hid hrl
  clear hm1' hlen hrl
  by_cases hbig : us.length ≤ 1048576
  case neg =>
    have q1 : (1048576 : Int) - (us.length : Int) < 0 := by omega
    clear hbig
    go_enter Try.func17, Try.ntmps17
    go_wp2
    go_ret
    exact ⟨⟨-1, rfl, fun h => absurd h (by decide)⟩, 0, rfl⟩
  have q1 : ¬ (1048576 : Int) - (us.length : Int) < 0 := by omega
  go_enter Try.func17, Try.ntmps17
  go_wp2_with fail
  go_loopw [1, 5] (fun t i wr => ∃ (k m : Nat) (L : Int), k ≤ us.length ∧ i = .int .i64 k ∧ t = .int .i64 L ∧ 0 ≤ L ∧ L + totL xss k ≤ 1048576 ∧ wr = w.drewN m ∧ Hid (∀ j (hj : j < xss.length), j < k → xss[j].length ≤ 1048576)) (fun _ i _ => us.length - (intOf i).toNat)
  case atStart => exact ⟨0, 0, _, Nat.zero_le _, rfl, rfl, by omega, by show (1048576 : Int) - us.length + ((0 : Nat) : Int) ≤ 1048576; omega, rfl, fun j _ h => absurd h (Nat.not_lt_zero _)⟩
  case round =>
    obtain ⟨k, m, L, hk, rfl, rfl, h0, h1, rfl, hno⟩ := hrel
    by_cases hlt : k < us.length
    · obtain ⟨b, off, rfl, hcell⟩ := hc1.resolve_left (by omega)
      have hltx : k < xss.length := by have := HLEN.out; omega
      have hc : w.cell? ⟨b, off + k, none⟩ = some us[k] := hcell k _ (by simp [hlt])
      have HT := Lib.hid (totL_succ xss k hltx)
      have HK : Hid (xss[k].length ≤ 1048576 → ∀ j (hj : j < xss.length), j < k + 1 → xss[j].length ≤ 1048576) := fun h j hj h2 => by
        by_cases e : j = k
        · subst e; exact h
        · exact hno.out j hj (by omega)
      obtain ⟨p, c, e, hsz', -⟩ := HRL.out k hlt hltx
      rw [e] at hc
      have hsz : xss[k].length ≤ 9223372036854775807 := by unfold maxLen at hsz'; omega
      clear hcell hc1 hno q1 hsz' e
      generalize xss[k].length = s at *
      generalize totL xss k = t0 at *
      go_wp2_with fail
      refine (l_szFloat32S p s c L h0 (by omega) hsz _).mono ?_
      rintro e w' ⟨rfl, m1, rfl⟩
      by_cases hs : L - (s : Int) < 0
      · rw [if_pos hs]
        go_wp2
        go_ret
        exact ⟨⟨-1, rfl, fun h => absurd h (by decide)⟩, _, rfl⟩
      · rw [if_neg hs]
        have HR := Lib.hid (HK.out (by omega))
        clear HK
        go_wp2
        go_roundw
        case rel => exact ⟨k + 1, _, L - s, by omega, by go_num, by go_num, by omega, by rw [HT.out]; omega, rfl, HR⟩
        case measure => simp [intOf]; omega
    · obtain rfl : k = us.length := by omega
      go_wp2
      go_ret
      exact ⟨⟨L, rfl, fun _ => ⟨hbig, by omega, all_idx fun j hj => hno.out j hj (by have := HLEN.out; omega)⟩⟩, _, rfl⟩
set_option maxHeartbeats 1000000 in
theorem l_markFloat32SS (u : Value) (us : List Value) (xss : List (List Nat)) (S T : Nat) (w : World) (ho : OFF S T w u us xss) (hl : us.length ≤ 1048576) (hi : ∀ xs ∈ xss, xs.length ≤ 1048576) (htot : totL xss us.length ≤ 1048576) :
    Calls Try.prog 23 #[u, .int .i64 1] w fun e w' => e = .returned (.int .i64 ((1 + totL xss us.length : Nat) : Int)) ∧ Only S T w w' := by
  have HI := Lib.hid hi
  have HLEN := Lib.hid ho.len
  have HIN := Lib.hid ho.inner
  have HAP := Lib.hid ho.apart
  have HOU := Lib.hid ho.out
  have HTP := Lib.hid ho.top
  have HRW := Lib.hid ho.row
  obtain ⟨p1, cap1, rfl, hm1, hc1⟩ := Sl_of_own ho.row (by omega)
  have hmono : ∀ k, k ≤ us.length → totL xss k ≤ totL xss us.length := by
    intro k hk
    have : ∀ j, totL xss k ≤ totL xss (k + j) := fun j => by
      induction j with
      | zero => exact Nat.le_refl _
      | succ j ih => show _ ≤ totL xss (k + j) + _; omega
    have := this (us.length - k)
    rwa [show k + (us.length - k) = us.length by omega] at this
  have HMO := Lib.hid hmono
  clear ho hi hc1 hmono
  go_enter Try.func23, Try.ntmps23
  go_wp2_with fail
  go_loopw [1, 5] (fun t i wr => ∃ k : Nat, k ≤ us.length ∧ i = .int .i64 k ∧ t = .int .i64 ((1 + totL xss k : Nat) : Int) ∧ Only S T w wr ∧ wr.ownsRow S 32 1 (.slice p1 us.length cap1) us.length us ∧ Hid (∀ i (h1 : i < us.length) (h2 : i < xss.length), k ≤ i → OF S wr us[i] xss[i])) (fun _ i _ => us.length - (intOf i).toNat)
  case atStart => exact ⟨0, Nat.zero_le _, rfl, rfl, Only.refl _ _ _, HRW.out, fun i h1 h2 _ => HIN.out i h1 h2⟩
  case round =>
    obtain ⟨k, hk, rfl, rfl, hon, hrow, hin⟩ := hrel
    have HON := Lib.hid hon
    have HRO := Lib.hid hrow
    clear hon
    by_cases hlt : k < us.length
    · have hltx : k < xss.length := by have := HLEN.out; omega
      obtain ⟨p', c', e', -, hc1⟩ := Sl_of_own hrow (by omega)
      cases e'
      obtain ⟨b, off, rfl, hcell⟩ := hc1.resolve_left (by omega)
      have h1 : wr.cell? ⟨b, off + k, none⟩ = some us[k] := hcell k _ (by simp [hlt])
      have HT := Lib.hid (totL_succ xss k hltx)
      have HM1 := HMO.out (k + 1) (by omega)
      have HM0 := HMO.out k (by omega)
      have hil := HI.out _ (List.getElem_mem hltx)
      have HOk := Lib.hid (hin.out k hlt hltx (Nat.le_refl _))
      have HL := Lib.hid (show ∀ i (h1 : i < us.length) (h2 : i < xss.length), k + 1 ≤ i → OF S wr us[i] xss[i] ∧ Dis us[k] us[i] from fun i h1 h2 h3 => ⟨hin.out i h1 h2 (by omega), HAP.out k i hlt h1 (by omega)⟩)
      have HDO := Lib.hid (HOU.out k hlt)
      have HBK : Hid (∀ q, us[k].ownBlock = some q → S ≤ q ∧ q < T) := fun q hq => ⟨(HOk.out.lt q hq).1, HTP.out.2 k hlt q hq⟩
      have HQ := Lib.hid (l_markFloat32S us[k] xss[k] (1 + totL xss k) ((1 + totL xss k : Nat) : Int) rfl S wr HOk.out hil (by omega))
      obtain ⟨q1, c1, e1, -⟩ := RF_of_own HOk.out (by omega)
      rw [e1] at h1 HQ HL HDO HBK
      rw [HT.out] at HM1
      clear hcell hc1 hrow hin HOk e1
      generalize xss[k].length = m at *
      generalize totL xss k = t0 at *
      go_wp2_with fail
      refine HQ.out.mono ?_
      rintro e w1 ⟨rfl, -, hg⟩
      have HR1 := Lib.hid (kept_dis (u := .slice q1 m c1) HRO.out hg HDO.out.symm)
      have HO1 := Lib.hid (HON.out.trans (Only.of_grown hg HBK.out))
      have HL1 : Hid (∀ i (h1 : i < us.length) (h2 : i < xss.length), k + 1 ≤ i → OF S w1 us[i] xss[i]) := fun i h1 h2 h3 => kept_dis (u := .slice q1 m c1) (HL.out i h1 h2 h3).1 hg (HL.out i h1 h2 h3).2
      clear hg HQ HL HDO HBK h1 HRO HON
      go_wp2
      go_roundw
      case rel => exact ⟨k + 1, by omega, by go_num, by rw [HT.out]; go_num, HO1.out, HR1.out, HL1⟩
      case measure => simp [intOf]; omega
    · obtain rfl : k = us.length := by omega
      clear hrow hin
      go_wp2
      go_ret
      exact ⟨rfl, HON.out⟩
end Go.Proofs.Ytmpajgpnbiaoiaa
