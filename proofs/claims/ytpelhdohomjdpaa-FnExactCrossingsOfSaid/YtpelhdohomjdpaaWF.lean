/- Walks: lists of lists of whole numbers: held against each other, marked, appended to. -/
import Derived.Test.YtpelhdohomjdpaaCI
import Derived.Test.YtpelhdohomjdpaaR
namespace Go.Proofs.Ytpelhdohomjdpaa
set_option linter.unusedSimpArgs false
set_option linter.unusedVariables false
open Go.RowKit Go.Fl

/-- Rows that are read as lists of whole numbers. -/
def RII (w : World) (v : Value) (us : List Value) (xss : List (List Int)) : Prop := Sl w v us.length us ∧ us.length = xss.length ∧ ∀ i (h1 : i < us.length) (h2 : i < xss.length), RI w us[i] xss[i]
/-- .. that are a call's own, their blocks in S .. T. -/
structure OII (S T : Nat) (w : World) (u : Value) (us : List Value) (xss : List (List Int)) : Prop where
  len : us.length = xss.length
  row : w.ownsRow S 25 1 u us.length us
  inner : ∀ i (h1 : i < us.length) (h2 : i < xss.length), OI S w us[i] xss[i]
  apart : ∀ i j (h1 : i < us.length) (h2 : j < us.length), i ≠ j → Dis us[i] us[j]
  out : ∀ i (h1 : i < us.length), Dis u us[i]
  top : (∀ k, u.ownBlock = some k → k < T) ∧ ∀ i (h1 : i < us.length) k, us[i].ownBlock = some k → k < T
theorem OII.below {S T : Nat} {w w' : World} {u : Value} {us : List Value} {xss : List (List Int)} (h : OII S T w u us xss) (hb : Below w.heap.size w w') : OII S T w' u us xss :=
  ⟨h.len, ownsRow_below h.row hb, fun i h1 h2 => OI_below (h.inner i h1 h2) hb, h.apart, h.out, h.top⟩
theorem OII.read {S T : Nat} {w : World} {u : Value} {us : List Value} {xss : List (List Int)} (h : OII S T w u us xss) (hl : us.length ≤ 1048576) (hi : ∀ xs ∈ xss, xs.length ≤ 1048576) : RII w u us xss :=
  ⟨Sl_of_own h.row (by omega), h.len, fun i h1 h2 => RI_of_own (h.inner i h1 h2) (by have := hi _ (List.getElem_mem h2); omega)⟩
/-- Only blocks in S .. T are other ones, or new. -/
structure Only (S T : Nat) (w w' : World) : Prop where
  os : w'.os = w.os
  tape : w'.tape = w.tape
  output : w'.output = w.output
  size : w.heap.size ≤ w'.heap.size
  block : ∀ k, k < w.heap.size → (k < S ∨ T ≤ k) → w'.heap[k]? = w.heap[k]?
theorem Only.refl (S T : Nat) (w : World) : Only S T w w := ⟨rfl, rfl, rfl, Nat.le_refl _, fun _ _ _ => rfl⟩
theorem Only.trans {S T : Nat} {w w1 w2 : World} (h : Only S T w w1) (k : Only S T w1 w2) : Only S T w w2 :=
  ⟨k.os.trans h.os, k.tape.trans h.tape, k.output.trans h.output, Nat.le_trans h.size k.size, fun i hi ho => (k.block i (Nat.lt_of_lt_of_le hi h.size) ho).trans (h.block i hi ho)⟩
theorem Only.of_grown {S T : Nat} {w w' : World} {r : Option Nat} (h : w.grownBy w' r) (hr : ∀ k, r = some k → S ≤ k ∧ k < T) : Only S T w w' :=
  ⟨h.os, h.tape, h.output, h.size, fun i hi ho => h.block i hi fun e => by have := hr i e.symm; omega⟩
theorem Only.below {S T B : Nat} {w w' : World} (h : Only S T w w') (hB : B ≤ S) (hw : B ≤ w.heap.size) : Below B w w' :=
  ⟨h.os, h.tape, h.output, h.size, fun i hi => h.block i (by omega) (.inl (by omega))⟩
theorem Only.own {S T B : Nat} {w w' : World} {v : Value} {n : Nat} {cs : List Value} {e : TypeId} {s : Nat} (h : Only S T w w') (ho : w.ownsRow B e s v n cs) (hv : ∀ k, v.ownBlock = some k → k < S ∨ T ≤ k) : w'.ownsRow B e s v n cs := by
  obtain ⟨hlen, hc⟩ := id ho
  refine ⟨hlen, ?_⟩
  rcases hc with hc | ⟨g, cap, cur, rfl, hB, hg, rest⟩
  · exact .inl hc
  · exact .inr ⟨g, cap, cur, rfl, hB, (h.block g (lt_of_block hg) (hv g rfl)).trans hg, rest⟩
theorem OII.only {S T S' T' : Nat} {w w' : World} {u : Value} {us : List Value} {xss : List (List Int)} (h : OII S T w u us xss) (ho : Only S' T' w w') (hd : T ≤ S' ∨ T' ≤ S) : OII S T w' u us xss := by
  refine ⟨h.len, ho.own h.row fun k hk => ?_, fun i h1 h2 => ho.own (h.inner i h1 h2) fun k hk => ?_, h.apart, h.out, h.top⟩
  · have := h.top.1 k hk
    have := (h.row.lt k hk).1
    omega
  · have := h.top.2 i h1 k hk
    have := (World.ownsRow.lt (h.inner i h1 h2) k hk).1
    omega
/-- How many numbers the first rows hold. -/
def totI (xss : List (List Int)) : Nat → Nat
  | 0 => 0
  | k + 1 => totI xss k + (xss[k]?.getD []).length
theorem totI_succ (xss : List (List Int)) (k : Nat) (hk : k < xss.length) : totI xss (k + 1) = totI xss k + xss[k].length := by
  show _ + _ = _
  rw [List.getElem?_eq_getElem hk]; rfl
theorem totI_mono (xss : List (List Int)) (n k : Nat) (hk : k ≤ n) : totI xss k ≤ totI xss n := by
  have : ∀ j, totI xss k ≤ totI xss (k + j) := fun j => by
    induction j with
    | zero => exact Nat.le_refl _
    | succ j ih => show _ ≤ totI xss (k + j) + _; omega
  have := this (n - k)
  rwa [show k + (n - k) = n by omega] at this
/-- The rows, marked. -/
def markedI (xss : List (List Int)) : List (List Int) := (List.range xss.length).map fun i => marksI (xss[i]?.getD []).length (1 + totI xss i)
theorem markedI_length (xss : List (List Int)) : (markedI xss).length = xss.length := by simp [markedI]
theorem markedI_get (xss : List (List Int)) (i : Nat) (h : i < (markedI xss).length) (h2 : i < xss.length) : (markedI xss)[i] = marksI xss[i].length (1 + totI xss i) := by
  simp [markedI, h2]
/-- A row more at the end. -/
theorem OII.snoc {S T T' : Nat} {w w' : World} {u u' : Value} {us : List Value} {xss : List (List Int)} {ui : Value} {xs : List Int} (h : OII S T w u us xss) (hrow : w'.ownsRow S 25 1 u' (us ++ [ui]).length (us ++ [ui]))
    (hin : ∀ i (h1 : i < us.length) (h2 : i < xss.length), OI S w' us[i] xss[i]) (hui : OI S w' ui xs) (hap : ∀ i (h1 : i < us.length), Dis us[i] ui) (hou : ∀ i (h1 : i < us.length), Dis u' us[i]) (hou' : Dis u' ui) (hT : w'.heap.size ≤ T') : OII S T' w' u' (us ++ [ui]) (xss ++ [xs]) := by
  have hl := h.len
  refine ⟨by simp [hl], hrow, fun i h1 h2 => ?_, fun i j h1 h2 hne => ?_, fun i h1 => ?_, ⟨fun k hk => Nat.lt_of_lt_of_le (hrow.lt k hk).2 hT, fun i h1 k hk => ?_⟩⟩
  · by_cases e : i < us.length
    · rw [List.getElem_append_left e, List.getElem_append_left (by omega)]; exact hin i e (by omega)
    · have e' : i = us.length := by simp at h1; omega
      subst e'
      simp only [List.getElem_append_right (Nat.le_refl _), Nat.sub_self, List.getElem_cons_zero]
      rw [List.getElem_append_right (by omega)]
      simp only [hl, Nat.sub_self, List.getElem_cons_zero]
      exact hui
  · simp only [List.length_append, List.length_cons, List.length_nil] at h1 h2
    by_cases e1 : i < us.length <;> by_cases e2 : j < us.length
    · rw [List.getElem_append_left e1, List.getElem_append_left e2]; exact h.apart i j e1 e2 hne
    · obtain rfl : j = us.length := by omega
      rw [List.getElem_append_left e1]
      simp only [List.getElem_append_right (Nat.le_refl _), Nat.sub_self, List.getElem_cons_zero]
      exact hap i e1
    · obtain rfl : i = us.length := by omega
      rw [List.getElem_append_left e2]
      simp only [List.getElem_append_right (Nat.le_refl _), Nat.sub_self, List.getElem_cons_zero]
      exact (hap j e2).symm
    · omega
  · simp only [List.length_append, List.length_cons, List.length_nil] at h1
    by_cases e1 : i < us.length
    · rw [List.getElem_append_left e1]; exact hou i e1
    · obtain rfl : i = us.length := by omega
      simp only [List.getElem_append_right (Nat.le_refl _), Nat.sub_self, List.getElem_cons_zero]
      exact hou'
  · simp only [List.length_append, List.length_cons, List.length_nil] at h1
    by_cases e1 : i < us.length
    · rw [List.getElem_append_left e1] at hk
      exact Nat.lt_of_lt_of_le (World.ownsRow.lt (hin i e1 (by omega)) k hk).2 hT
    · obtain rfl : i = us.length := by omega
      simp only [List.getElem_append_right (Nat.le_refl _), Nat.sub_self, List.getElem_cons_zero] at hk
      exact Nat.lt_of_lt_of_le (World.ownsRow.lt hui k hk).2 hT
set_option maxHeartbeats 1000000 in
theorem l_eqInt64SS (v v' : Value) (us us' : List Value) (xss : List (List Int)) (w : World) (hx : RII w v us xss) (hy : RII w v' us' xss) :
    Calls Try.prog 11 #[v, v'] w fun e w' => e = .returned (.bool true) ∧ ∃ n, w' = w.drewN n := by
  obtain ⟨⟨p1, cap1, rfl, hm1, hc1⟩, hlen1, hrl1⟩ := hx
  obtain ⟨⟨p2, cap2, rfl, hm2, hc2⟩, hlen2, hrl2⟩ := hy
  have hll : us'.length = us.length := by omega
  have HL1 := Lib.hid hrl1
  have HL2 := Lib.hid hrl2
  have HLEN := Lib.hid hlen1
  have HLL := Lib.hid hll
  rw [hll] at hm2 hc2 ⊢
  clear hlen1 hlen2 hrl1 hrl2 hll
  go_enter Try.func11, Try.ntmps11
  go_wp2_with fail
  go_loopw [5] (fun i wr => ∃ k n : Nat, k ≤ us.length ∧ i = .int .i64 k ∧ wr = w.drewN n) (fun i _ => us.length - (intOf i).toNat)
  case atStart => exact ⟨0, 0, Nat.zero_le _, rfl, rfl⟩
  case round =>
    obtain ⟨k, n, hk, rfl, rfl⟩ := hrel
    by_cases hlt : k < us.length
    · obtain ⟨b1, o1, rfl, hcell1⟩ := hc1.resolve_left (by omega)
      obtain ⟨b2, o2, rfl, hcell2⟩ := hc2.resolve_left (by omega)
      have hlt2 : k < us'.length := by have := HLL.out; omega
      have hltx : k < xss.length := by have := HLEN.out; omega
      have h1 : w.cell? ⟨b1, o1 + k, none⟩ = some us[k] := hcell1 k _ (by simp [hlt])
      have h2 : w.cell? ⟨b2, o2 + k, none⟩ = some us'[k] := hcell2 k _ (by simp [hlt2])
      have HE := Lib.hid (fun m => l_eqInt64S us[k] us'[k] xss[k] ((w.drewN n).drewN m) (HL1.out k hlt hltx) (HL2.out k hlt2 hltx))
      obtain ⟨q1, c1, e1, -⟩ := HL1.out k hlt hltx
      obtain ⟨q2, c2, e2, -⟩ := HL2.out k hlt2 hltx
      rw [e1] at h1 HE
      rw [e2] at h2 HE
      clear hcell1 hcell2 hc1 hc2 e1 e2
      generalize xss[k].length = m at *
      go_wp2_with fail
      ((refine wp_region_rq_lit (fun _ _ u => u = .bool true) (by kernel_rfl) (by kernel_rfl) ?_); (iterate 8 (refine wpRq_det' (by kernel_rfl) (fun K hK => ?_); go_simp; refine hK _ ?_; clear hK K)); (refine wpRq_call2 (f := 12) (X := .slice q1 m c1) (Y := .slice q2 m c2) rfl (by kernel_rfl) rfl rfl (run_enter Try.func12 (by kernel_rfl) rfl) (fun x => (HE.out _).mono (fun e w' ⟨he, hn⟩ => ⟨_, he, rfl, hn⟩)) ?_; intro v hv; subst hv); (refine wpRq_det' (by kernel_rfl) (fun K hK => ?_); go_simp; refine hK _ ?_; clear hK K); (refine wpRq_nil ?_); intro nq)
      go_wp2
      go_roundw
      case rel => exact ⟨k + 1, _, by omega, by go_num, rfl⟩
      case measure => simp [intOf]; omega
    · go_wp2
      go_ret
      exact ⟨rfl, _, rfl⟩
set_option maxHeartbeats 1000000 in
theorem l_markInt64SS (u : Value) (us : List Value) (xss : List (List Int)) (S T : Nat) (w : World) (ho : OII S T w u us xss) (hl : us.length ≤ 1048576) (hi : ∀ xs ∈ xss, xs.length ≤ 1048576) (htot : totI xss us.length ≤ 1048576) :
    Calls Try.prog 16 #[u, .int .i64 1] w fun e w' => e = .returned (.int .i64 ((1 + totI xss us.length : Nat) : Int)) ∧ OII S T w' u us (markedI xss) ∧ Only S T w w' := by
  have HI := Lib.hid hi
  have HLEN := Lib.hid ho.len
  have HIN := Lib.hid ho.inner
  have HAP := Lib.hid ho.apart
  have HOU := Lib.hid ho.out
  have HTP := Lib.hid ho.top
  have HRW := Lib.hid ho.row
  obtain ⟨p1, cap1, rfl, hm1, hc1⟩ := Sl_of_own ho.row (by omega)
  have HMO := Lib.hid (totI_mono xss us.length)
  clear ho hi hc1
  go_enter Try.func16, Try.ntmps16
  go_wp2_with fail
  go_loopw [1, 5] (fun t i wr => ∃ k : Nat, k ≤ us.length ∧ i = .int .i64 k ∧ t = .int .i64 ((1 + totI xss k : Nat) : Int) ∧ Only S T w wr ∧ wr.ownsRow S 25 1 (.slice p1 us.length cap1) us.length us ∧ Hid (∀ i (h1 : i < us.length) (h2 : i < xss.length), OI S wr us[i] (if i < k then marksI xss[i].length (1 + totI xss i) else xss[i]))) (fun _ i _ => us.length - (intOf i).toNat)
  case atStart => exact ⟨0, Nat.zero_le _, rfl, rfl, Only.refl _ _ _, HRW.out, fun i h1 h2 => by rw [if_neg (Nat.not_lt_zero _)]; exact HIN.out i h1 h2⟩
  case round =>
    obtain ⟨k, hk, rfl, rfl, hon, hrow, hin⟩ := hrel
    have HON := Lib.hid hon
    have HRO := Lib.hid hrow
    clear hon
    by_cases hlt : k < us.length
    · have hltx : k < xss.length := by have := HLEN.out; omega
      obtain ⟨p', c', e', -, hc1⟩ := Sl_of_own hrow (by omega)
      cases e'
      obtain ⟨b, off, rfl, hcell⟩ := hc1.resolve_left (by omega)
      have h1 : wr.cell? ⟨b, off + k, none⟩ = some us[k] := hcell k _ (by simp [hlt])
      have HT := Lib.hid (totI_succ xss k hltx)
      have HM1 := HMO.out (k + 1) (by omega)
      have HM0 := HMO.out k (by omega)
      have hil := HI.out _ (List.getElem_mem hltx)
      have HOk : Hid (OI S wr us[k] xss[k]) := by
        have h := hin.out k hlt hltx
        rw [if_neg (Nat.lt_irrefl _)] at h
        exact h
      have HDO := Lib.hid (HOU.out k hlt)
      have HDA := Lib.hid (fun i (h1 : i < us.length) (hne : i ≠ k) => HAP.out k i hlt h1 (fun e => hne e.symm))
      have HBK : Hid (∀ q, us[k].ownBlock = some q → S ≤ q ∧ q < T) := fun q hq => ⟨(World.ownsRow.lt HOk.out q hq).1, HTP.out.2 k hlt q hq⟩
      have HQ := Lib.hid (l_markInt64S us[k] xss[k] (1 + totI xss k) ((1 + totI xss k : Nat) : Int) rfl S wr HOk.out hil (by omega))
      have HUK : ∃ uk, uk = us[k] := ⟨_, rfl⟩
      obtain ⟨uk, huk⟩ := HUK
      have HUK := Lib.hid huk
      rw [← huk] at h1 HQ HDO HDA HBK
      obtain ⟨q1, c1, e1, -⟩ := RI_of_own HOk.out (by omega)
      rw [← huk] at e1
      rw [HT.out] at HM1
      have HXL : Hid (∃ m, m = xss[k].length) := ⟨_, rfl⟩
      clear hcell hc1 hrow HOk huk
      subst e1
      go_wp2_with fail
      refine HQ.out.mono ?_
      rintro e w1 ⟨rfl, hM, hg⟩
      have HR1 := Lib.hid (kept_dis (u := .slice q1 xss[k].length c1) HRO.out hg HDO.out.symm)
      have HO1 := Lib.hid (HON.out.trans (Only.of_grown hg HBK.out))
      have HL1 : Hid (∀ i (h1 : i < us.length) (h2 : i < xss.length), OI S w1 us[i] (if i < k + 1 then marksI xss[i].length (1 + totI xss i) else xss[i])) := fun i h1 h2 => by
        by_cases e : i = k
        · subst e
          rw [if_pos (Nat.lt_succ_self _), ← HUK.out]
          exact hM
        · have h3 := kept_dis (u := .slice q1 xss[k].length c1) (hin.out i h1 h2) hg (HDA.out i h1 e)
          by_cases e2 : i < k
          · rw [if_pos e2] at h3
            rw [if_pos (by omega)]; exact h3
          · rw [if_neg e2] at h3
            rw [if_neg (by omega)]; exact h3
      clear hg HQ HDA HDO HBK h1 HRO HON hM hin HXL
      generalize xss[k].length = m at *
      generalize totI xss k = t0 at *
      go_wp2
      go_roundw
      case rel => exact ⟨k + 1, by omega, by go_num, by rw [HT.out]; go_num, HO1.out, HR1.out, HL1⟩
      case measure => simp [intOf]; omega
    · obtain rfl : k = us.length := by omega
      have HF : Hid (OII S T wr (.slice p1 us.length cap1) us (markedI xss)) := ⟨by rw [markedI_length]; exact HLEN.out, HRO.out, fun i h1 h2 => by
        have h3 : i < xss.length := by have := HLEN.out; omega
        have h := hin.out i h1 h3
        rw [if_pos h1] at h
        rw [markedI_get xss i h2 h3]; exact h, HAP.out, HOU.out, HTP.out⟩
      clear hrow hin
      go_wp2
      go_ret
      exact ⟨rfl, HF.out, HON.out⟩
end Go.Proofs.Ytpelhdohomjdpaa
