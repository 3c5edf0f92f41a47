/- Walks: outputs are counted. -/
import Derived.Test.YtfhmlhocaldioaaDoorTB
import Derived.Test.YtfhmlhocaldioaaDoorSh
namespace Go.Proofs.YtfhmlhocaldioaaDoor
set_option linter.unusedSimpArgs false
set_option linter.unusedVariables false
open Go.RowKit Go.Fl Go.Tx Go.Lib

theorem RS_front {B g cap : Nat} {w : World} {ss : List ByteArray} {t : ByteArray} {e : TypeId} (h : w.ownsRow B e 1 (.slice (some ⟨g, 0, none⟩) (ss.length + 1) cap) (ss.length + 1) ((ss ++ [t]).map Value.string)) (hm : ss.length ≤ 281474976710656) :
    RS w (.slice (some ⟨g, 0, none⟩) ss.length cap) ss ∧ w.cell? ⟨g, ss.length, none⟩ = some (.string t) := by
  refine ⟨⟨_, _, rfl, hm, .inr ⟨g, 0, rfl, fun j u hj => ?_⟩⟩, ?_⟩
  · have hjl := (List.getElem?_eq_some_iff.1 hj).1
    rw [Nat.zero_add, h.cellAt j (by simp at hjl; omega), List.map_append, List.getElem?_append_left hjl]
    exact hj
  · rw [h.cellAt ss.length (by omega)]
    simp
set_option maxHeartbeats 1000000 in
theorem s_l08Lines (s : ByteArray) (w : World) (hs : s.size ≤ 1048576) :
    Calls Tryd.prog 17 #[.string s] w fun e w' => ∃ u, e = .returned (.tuple #[u, .string (restB s)]) ∧ RS w' u (linesB s) ∧ Below w.heap.size w w' := by
  have hsn := cut_snoc s
  have hcl := (cutAll_len 10 s).2
  go_enter Tryd.func17, Tryd.ntmps17
  go_wp2_with fail
  refine (s_l01Cut s 10 10 rfl _ hs).mono ?_
  rintro e w1 ⟨u, rfl, ho, hb⟩
  rw [hsn] at ho hcl
  have HB := Lib.hid hb
  have hlen : (linesB s ++ [restB s]).length = (linesB s).length + 1 := by simp
  unfold OS at ho
  rw [hlen] at ho hcl
  have hown := ho
  obtain ⟨-, hcase⟩ := ho
  rcases hcase with ⟨-, h0⟩ | ⟨g, cap, cur, rfl, -, -, hnc, -⟩
  · omega
  obtain ⟨h2, hcell⟩ := RS_front hown (by omega)
  have HR2 := Lib.hid h2
  have hm : (linesB s).length ≤ 1048577 := by omega
  clear hsn hcl hlen hb h2 hown
  generalize (linesB s).length = m at *
  have q1 : IntKind.i64.wrap ((m : Int) + 1 - 1) = (m : Int) := by rw [IntKind.wrap_i64]; omega
  have q2 : IntKind.i64.wrap (m : Int) = (m : Int) := by rw [IntKind.wrap_i64]; omega
  have q3 : ((((m + 1 : Nat) : Nat) : Int)) = (m : Int) + 1 := by simp
  have q4 : (m : Int) + 1 - 1 = (m : Int) := by omega
  have q6 : m ≤ cap := by omega
  have q7 : (m : Int) < (m : Int) + 1 := by omega
  have q5 : decide ((m : Int) < (m : Int) + 1) = true := by simp; omega
  go_wp2_with fail
  ((refine wp_region_rq_lit (fun _ _ _ => False) (by kernel_rfl) (by kernel_rfl) ?_); (iterate 13 (refine wpRq_det' (by kernel_rfl) (fun K hK => ?_); go_simp; refine hK _ ?_; clear hK K)); (refine wpRq_nil ?_); intro nq)
  go_wp2
  go_ret2
  exact ⟨_, rfl, HR2.out, by have hb := HB.out; exact (by repeat (first | exact Below.refl _ _ | assumption | refine below_drewN ?_ _ | refine below_alloc (Nat.le_refl _) ?_ _ | (refine Below.setCell ?_ (by first | exact Nat.le_refl _ | (simp; done) | (simp; omega) | omega) _) | (refine below_step (Nat.le_refl _) ?_ (by assumption))))⟩
/-- How many of the first k lines are 'no' or 'what'. -/
def isBad (s : ByteArray) : Bool := s.toList == [110, 111] || s.toList == [119, 104, 97, 116]
def bads (ss : List ByteArray) : Nat := ss.countP isBad
theorem bads_take (ss : List ByteArray) (k : Nat) (hk : k < ss.length) : bads (ss.take (k + 1)) = bads (ss.take k) + if isBad ss[k] then 1 else 0 := by
  unfold bads
  rw [List.take_succ_eq_append_getElem hk, List.countP_append]
  simp [List.countP_cons]
theorem bads_le (ss : List ByteArray) (k : Nat) : bads (ss.take k) ≤ k := Nat.le_trans List.countP_le_length (List.length_take_le _ _)
def cntGoodT (s : ByteArray) : Bool := decide (s.size ≤ 16000) && (restB s).toList.isEmpty
def cntA (s : ByteArray) : Int := if cntGoodT s then (bads (linesB s) : Int) else 0
def cntB (s : ByteArray) : Int := if cntGoodT s then ((linesB s).length : Int) - (bads (linesB s) : Int) else 0
def CntOut (s : ByteArray) (e : Ending) : Prop := e = .returned (.tuple #[.int .i64 (cntA s), .int .i64 (cntB s), .bool (cntGoodT s)])
theorem CntOut.no {s : ByteArray} (h : cntGoodT s = false) : CntOut s (.returned (.tuple #[.int .i64 0, .int .i64 0, .bool false])) := by
  unfold CntOut cntA cntB; rw [h]; rfl
theorem CntOut.ok {s : ByteArray} (h : cntGoodT s = true) {n : Int} (hn : n = (linesB s).length) : CntOut s (.returned (.tuple #[.int .i64 (bads (linesB s) : Int), .int .i64 (n - (bads (linesB s) : Int)), .bool true])) := by
  subst hn
  unfold CntOut cntA cntB; rw [h]; rfl
set_option maxHeartbeats 1000000 in
theorem s_CountOutputs (s : ByteArray) (w : World) (hs : s.size ≤ 1048576) : Calls Tryd.prog 6 #[.string s] w fun e w' => CntOut s e ∧ Below w.heap.size w w' := by
  by_cases hsz : s.size ≤ 16000
  case neg =>
    go_enter Tryd.func6, Tryd.ntmps6
    go_wp2
    go_ret3
    exact ⟨CntOut.no (by unfold cntGoodT; simp [hsz]), (by repeat (first | exact Below.refl _ _ | assumption | refine below_drewN ?_ _ | refine below_alloc (Nat.le_refl _) ?_ _ | (refine Below.setCell ?_ (by first | exact Nat.le_refl _ | (simp; done) | (simp; omega) | omega) _) | (refine below_step (Nat.le_refl _) ?_ (by assumption))))⟩
  have hcl := (cutAll_len 10 s).2
  rw [cut_snoc] at hcl
  simp at hcl
  cases hr : (restB s).toList.isEmpty
  · have HR := Lib.hid hr
    go_enter Tryd.func6, Tryd.ntmps6
    go_wp2_with (go_at_call 17; refine (s_l08Lines s _ hs).mono ?_; rintro e w' ⟨u, rfl, hu, hb⟩)
    go_ret3
    exact ⟨CntOut.no (by unfold cntGoodT; rw [HR.out, Bool.and_false]), (by repeat (first | exact Below.refl _ _ | assumption | refine below_drewN ?_ _ | refine below_alloc (Nat.le_refl _) ?_ _ | (refine Below.setCell ?_ (by first | exact Nat.le_refl _ | (simp; done) | (simp; omega) | omega) _) | (refine below_step (Nat.le_refl _) ?_ (by assumption))))⟩
  have HG : Hid (cntGoodT s = true) := by show _ = _; unfold cntGoodT; rw [hr]; simp [hsz]
  go_enter Tryd.func6, Tryd.ntmps6
  go_wp2_with (go_at_call 17; refine (s_l08Lines s _ hs).mono ?_; rintro e w' ⟨u, rfl, hu, hb⟩)
  have HB := Lib.hid hb
  obtain ⟨p1, cap1, rfl, hm1, hc1⟩ := hu
  clear hb
  generalize hss : linesB s = ss at hc1 hm1 hcl
  have HSS := Lib.hid hss
  clear hss
  go_loopw [7, 8] (fun t i wr => ∃ k n : Nat, k ≤ ss.length ∧ i = .int .i64 k ∧ t = .int .i64 (bads (ss.take k) : Nat) ∧ wr = w'.drewN n) (fun _ i _ => ss.length - (RowKit.intOf i).toNat)
  case atStart => exact ⟨0, 0, Nat.zero_le _, rfl, rfl, rfl⟩
  case round =>
    obtain ⟨k, n, hk, rfl, rfl, rfl⟩ := hrel
    by_cases hlt : k < ss.length
    · obtain ⟨b, off, rfl, hcell⟩ := hc1.resolve_left (by omega)
      have h1 : w'.cell? ⟨b, off + k, none⟩ = some (.string ss[k]) := hcell k _ (by simp [hlt])
      have h2 := bads_le ss k
      have HT := Lib.hid (bads_take ss k hlt)
      clear hcell hc1
      go_wp2
      all_goals
        go_roundw
        case rel => exact ⟨k + 1, _, by omega, by go_num, by rw [HT.out]; unfold isBad; simp_all, rfl⟩
        case measure => simp [RowKit.intOf]; omega
    · obtain rfl : k = ss.length := by omega
      rw [List.take_length]
      have h2 := bads_le ss ss.length
      rw [List.take_length] at h2
      go_wp2
      go_ret3
      have := HSS.out; subst this
      exact ⟨CntOut.ok HG.out rfl, below_drewN HB.out _⟩
theorem nl_suffix (s : ByteArray) (h : hasSuffix s.data.toList [10] = true) : ∃ b : ByteArray, s.data.toList = b.data.toList ++ [10] ∧ trimSuffix s.data.toList [10] = b.data.toList ∧ b.size + 1 = s.size := by
  have h' := h
  unfold hasSuffix at h'
  rw [List.isSuffixOf_iff_suffix] at h'
  obtain ⟨t, ht⟩ := h'
  refine ⟨⟨t.toArray⟩, ht.symm, ?_, ?_⟩
  · unfold trimSuffix
    rw [if_pos h, ← ht]
    simp
  · have := congrArg List.length ht
    rw [size_eq s, ← this]
    simp [ByteArray.size]
theorem nl_not (s : ByteArray) (h : hasSuffix s.data.toList [10] = false) : trimSuffix s.data.toList [10] = s.data.toList := by
  unfold trimSuffix; rw [h]; rfl
theorem good_iff (s : ByteArray) (h0 : s.data.toList ≠ []) : (restB s).toList.isEmpty = hasSuffix s.data.toList [10] := by
  cases h : hasSuffix s.data.toList [10]
  · rw [Bool.eq_false_iff]
    intro hc
    have he : restB s = ByteArray.empty := by
      rw [toList_data, List.isEmpty_iff] at hc
      rw [← mk_data (restB s), hc]
      rfl
    rcases rest_empty s he with h1 | ⟨b, hb⟩
    · exact h0 h1
    · rw [hb] at h
      unfold hasSuffix at h
      rw [Bool.eq_false_iff] at h
      exact h (List.isSuffixOf_iff_suffix.2 (List.suffix_append b [10]))
  · obtain ⟨b, hb, -⟩ := nl_suffix s h
    rw [(lines_of_suffix s b hb).2, toList_data]
    rfl
theorem lines_empty (s : ByteArray) (h0 : s.data.toList = []) : linesB s = [] ∧ restB s = ByteArray.empty := by
  have h1 := cutAll_pieces 10 s
  rw [h0] at h1
  have h2 : cutAll 10 s = [] ++ [ByteArray.empty] := map_data_inj (by rw [h1]; simp [pieces])
  rw [cut_snoc s] at h2
  obtain ⟨a, b⟩ := List.append_inj' h2 rfl
  exact ⟨a, by simpa using b⟩
/-- The lines of a text, and whether it is one. -/
def LinesOut (s : ByteArray) (w : World) (e : Ending) (w' : World) : Prop := ∃ u ss, e = .returned (.tuple #[u, .bool (cntGoodT s)]) ∧ RS w' u ss ∧ (cntGoodT s = true → ss = linesB s) ∧ ss.length ≤ s.size + 1 ∧ Below w.heap.size w w'
theorem LinesOut.mk {s : ByteArray} {w w' : World} {u : Value} {ss : List ByteArray} {b : Bool} (hb : b = cntGoodT s) (h1 : RS w' u ss) (h2 : cntGoodT s = true → ss = linesB s) (h3 : ss.length ≤ s.size + 1) (h4 : Below w.heap.size w w') : LinesOut s w (.returned (.tuple #[u, .bool b])) w' := by
  subst hb
  exact ⟨u, ss, rfl, h1, h2, h3, h4⟩
theorem RS_top (w : World) (k : Nat) (hk : k = w.heap.size) (ss : List ByteArray) (t : TypeId) (hl : ss.length ≤ 281474976710656) : RS (w.alloc (.cells (ss.map Value.string).toArray t)) (.slice (some ⟨k, 0, none⟩) ss.length ss.length) ss := by
  subst hk
  refine ⟨_, _, rfl, hl, .inr ⟨_, _, rfl, fun j u h => ?_⟩⟩
  rw [Nat.zero_add, cell_of_row _ _ _ _ t (0, 0) (heap_alloc_new w _)]
  simpa using h
set_option maxHeartbeats 1000000 in
theorem i_linesOf (s : ByteArray) (w : World) (hs : s.size ≤ 1048576) (M : Int) (hsh : w.cell? ⟨0, 0, none⟩ = some (.int .i64 M)) : Calls Tryd.prog 18 #[.string s] w (LinesOut s w) := by
  by_cases h0 : s.data.toList = []
  · have h0' : s.toList = [] := by rw [toList_data]; exact h0
    obtain ⟨e1, e2⟩ := lines_empty s h0
    have hz : s.size = 0 := by rw [size_eq, h0]; rfl
    have HG : Hid (cntGoodT s = true) := by show _ = _; unfold cntGoodT; rw [e2, hz, toList_data]; rfl
    have HE := Lib.hid e1
    clear e1 e2 h0 hsh
    go_enter Tryd.func18, Tryd.ntmps18
    go_wp2
    go_ret2
    exact ⟨_, [], by rw [HG.out]; rfl, ⟨none, 0, rfl, by simp, .inl rfl⟩, fun _ => HE.out.symm, by simp, (by repeat (first | exact Below.refl _ _ | assumption | refine below_drewN ?_ _ | refine below_alloc (Nat.le_refl _) ?_ _ | (refine Below.setCell ?_ (by first | exact Nat.le_refl _ | (simp; done) | (simp; omega) | omega) _) | (refine below_step (Nat.le_refl _) ?_ (by assumption))))⟩
  have h0' : s.toList.isEmpty = false := by rw [toList_data, List.isEmpty_eq_false_iff]; exact h0
  have hgi := good_iff s h0
  obtain ⟨B, hB⟩ : ∃ B : ByteArray, B = ⟨(trimSuffix s.data.toList [10]).toArray⟩ := ⟨_, rfl⟩
  have hBd : B.data.toList = trimSuffix s.data.toList [10] := by rw [hB]
  have hBs : B.size ≤ s.size := by
    rw [size_eq, size_eq, hBd]
    unfold trimSuffix
    split
    · simp
    · exact Nat.le_refl _
  have hcl := cutAll_len 10 B
  have hcb := countB_len 10 B ⟨#[10]⟩ rfl
  have hsp := splitB_cutAll 10 B ⟨#[10]⟩ rfl
  have hll : hasSuffix s.data.toList [10] = true → linesB s = cutAll 10 B := by
    intro h
    obtain ⟨b, e1, e2, -⟩ := nl_suffix s h
    have : B = b := by rw [← mk_data B, ← mk_data b, hBd, e2]
    rw [this]
    exact (lines_of_suffix s b e1).1
  cases hsf : hasSuffix s.data.toList [10]
  all_goals
    have HSF : Hid (hasSuffix s.data.toList (⟨#[10]⟩ : ByteArray).data.toList = _) := hsf
    have HG : Hid (cntGoodT s = (decide (s.size ≤ 16000) && hasSuffix s.data.toList [10])) := by show _ = _; unfold cntGoodT; rw [hgi]
    have HB : Hid ((⟨(trimSuffix s.data.toList (⟨#[10]⟩ : ByteArray).data.toList).toArray⟩ : ByteArray) = B) := hB.symm
    have HSP := Lib.hid hsp
    have HCB := Lib.hid hcb
    have HCL := Lib.hid hcl
    have HSH := Lib.hid hsh
    rw [hsf] at hll
    have HLL := Lib.hid hll
    have hle : B.size < 4294967281 := by omega
    clear hgi hBd hsf hsp hcb hsh hB hll h0 hcl
    go_enter Tryd.func18, Tryd.ntmps18
    go_wp2_with (first
      | (go_at_call 26; refine (Tryd.strings_CutSuffix s ⟨#[10]⟩ _ (by omega)).mono ?_; rintro e w' ⟨rfl, rfl⟩; rw [HSF.out, HB.out])
      | (go_at_call 27; refine (Tryd.strings_Split B ⟨#[10]⟩ M _ hle HSH.out (by decide)).mono ?_; rintro e w' ⟨rfl, rfl⟩))
    rw [← HCB.out, HSP.out]
    go_ret2
    exact LinesOut.mk (by rw [HG.out, show hasSuffix s.data.toList [10] = _ from HSF.out]; first | (simp; done) | (rw [Bool.eq_iff_iff]; simp; omega)) (RS_top _ _ rfl _ _ (by have := HCL.out; omega)) (fun h => by first | exact (HLL.out rfl).symm | exact (HLL.out trivial).symm | (rw [HG.out, show hasSuffix s.data.toList [10] = _ from HSF.out, Bool.and_false] at h; cases h)) (by have := HCL.out; omega) (by repeat (first | exact Below.refl _ _ | assumption | refine below_drewN ?_ _ | refine below_alloc (Nat.le_refl _) ?_ _ | (refine Below.setCell ?_ (by first | exact Nat.le_refl _ | (simp; done) | (simp; omega) | omega) _) | (refine below_step (Nat.le_refl _) ?_ (by assumption))))
set_option maxHeartbeats 1000000 in
theorem i_CountOutputs (s : ByteArray) (w : World) (hs : s.size ≤ 1048576) (M : Int) (hsh : w.cell? ⟨0, 0, none⟩ = some (.int .i64 M)) : Calls Tryd.prog 7 #[.string s] w fun e w' => CntOut s e ∧ Below w.heap.size w w' := by
  have HSH := Lib.hid hsh
  clear hsh
  cases hg : cntGoodT s
  · have HG := Lib.hid hg
    clear hg
    go_enter Tryd.func7, Tryd.ntmps7
    go_wp2_with (go_at_call 18; refine (i_linesOf s _ hs M HSH.out).mono ?_; rintro e w' ⟨u, ss, rfl, hu, hss, hl, hb⟩; rw [HG.out])
    go_ret3
    exact ⟨CntOut.no HG.out, (by repeat (first | exact Below.refl _ _ | assumption | refine below_drewN ?_ _ | refine below_alloc (Nat.le_refl _) ?_ _ | (refine Below.setCell ?_ (by first | exact Nat.le_refl _ | (simp; done) | (simp; omega) | omega) _) | (refine below_step (Nat.le_refl _) ?_ (by assumption))))⟩
  have HG := Lib.hid hg
  clear hg
  go_enter Tryd.func7, Tryd.ntmps7
  go_wp2_with fail
  refine (i_linesOf s _ hs M HSH.out).mono ?_
  rintro e w' ⟨u, ss, rfl, hu, hss, hl, hb⟩
  have hss' := hss HG.out
  subst hss'
  rw [HG.out]
  clear hss
  have HB := Lib.hid hb
  obtain ⟨p1, cap1, rfl, hm1, hc1⟩ := hu
  clear hb
  generalize hss : linesB s = ss at hc1 hm1 hl
  have HSS := Lib.hid hss
  clear hss
  go_wp2_with fail
  go_loopw [7, 19] (fun t i wr => ∃ k n : Nat, k ≤ ss.length ∧ i = .int .i64 k ∧ t = .int .i64 (bads (ss.take k) : Nat) ∧ wr = w'.drewN n) (fun _ i _ => ss.length - (RowKit.intOf i).toNat)
  case atStart => exact ⟨0, 0, Nat.zero_le _, rfl, rfl, rfl⟩
  case round =>
    obtain ⟨k, n, hk, rfl, rfl, rfl⟩ := hrel
    by_cases hlt : k < ss.length
    · obtain ⟨b, off, rfl, hcell⟩ := hc1.resolve_left (by omega)
      have h1 : w'.cell? ⟨b, off + k, none⟩ = some (.string ss[k]) := hcell k _ (by simp [hlt])
      have h2 := bads_le ss k
      have HT := Lib.hid (bads_take ss k hlt)
      clear hcell hc1
      go_wp2
      all_goals
        go_roundw
        case rel => exact ⟨k + 1, _, by omega, by go_num, by rw [HT.out]; unfold isBad; simp_all, rfl⟩
        case measure => simp [RowKit.intOf]; omega
    · obtain rfl : k = ss.length := by omega
      rw [List.take_length]
      have h2 := bads_le ss ss.length
      rw [List.take_length] at h2
      go_wp2
      go_ret3
      have := HSS.out; subst this
      exact ⟨CntOut.ok HG.out rfl, below_drewN HB.out _⟩
end Go.Proofs.YtfhmlhocaldioaaDoor
