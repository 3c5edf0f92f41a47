/- Plain laws: what is recovered of a journal. -/
import Derived.Test.YtfhmlhocaldioaaDoorTD
namespace Go.Tx
open Go Go.Lib

theorem pieces_two {c : UInt8} {l p : List UInt8} {ps : List (List UInt8)} (h : pieces c l = p :: ps) (hne : ps ≠ []) : ∃ l', l = p ++ c :: l' ∧ c ∉ p ∧ pieces c l' = ps := by
  by_cases hm : c ∈ l
  · obtain ⟨a, b, rfl, hno⟩ := List.eq_append_cons_of_mem hm
    rw [pieces_mark c a b hno] at h
    simp only [List.cons.injEq] at h
    obtain ⟨rfl, rfl⟩ := h
    exact ⟨b, rfl, hno, rfl⟩
  · rw [pieces_none c l hm] at h
    simp only [List.cons.injEq] at h
    exact absurd h.2.symm hne
theorem pieces_one {c : UInt8} {l p : List UInt8} (h : pieces c l = [p]) : l = p ∧ c ∉ p := by
  by_cases hm : c ∈ l
  · obtain ⟨a, b, rfl, hno⟩ := List.eq_append_cons_of_mem hm
    rw [pieces_mark c a b hno] at h
    simp only [List.cons.injEq] at h
    exact absurd h.2 (pieces_ne c b)
  · rw [pieces_none c l hm] at h
    simp only [List.cons.injEq, and_true] at h
    subst h
    exact ⟨rfl, hm⟩
theorem indexByte_at {c : UInt8} {l : List UInt8} {i : Nat} (h : l[i]? = some c) (hno : ∀ k, k < i → l[k]? ≠ some c) : indexByte l c = i := by
  have h1 := indexByte_ge l c
  by_cases hm : indexByte l c = -1
  · exact absurd h (indexByte_none hm i)
  · obtain ⟨o, ho⟩ := Int.eq_ofNat_of_zero_le (show 0 ≤ indexByte l c by omega)
    obtain ⟨h2, h3⟩ := indexByte_some ho
    rw [ho]
    congr 1
    rcases Nat.lt_trichotomy o i with hlt | rfl | hlt
    · exact absurd h2 (hno o hlt)
    · rfl
    · exact absurd h (h3 i hlt)
theorem cut_at {c : UInt8} {l : List UInt8} {i : Nat} (h : l[i]? = some c) (hno : ∀ k, k < i → l[k]? ≠ some c) : cut l [c] = (l.take i, l.drop (i + 1), true) := by
  unfold cut
  rw [index_one, indexByte_at h hno]
  simp
theorem cut_no {c : UInt8} {l : List UInt8} (h : c ∉ l) : cut l [c] = (l, [], false) := by
  unfold cut
  rw [index_one]
  have h1 := indexByte_ge l c
  have : ¬ 0 ≤ indexByte l c := by
    intro h0
    obtain ⟨o, ho⟩ := Int.eq_ofNat_of_zero_le h0
    exact h (List.mem_of_getElem? (indexByte_some ho).1)
  rw [if_neg this]
theorem cut_mark {c : UInt8} {a b : List UInt8} (h : c ∉ a) : cut (a ++ c :: b) [c] = (a, b, true) := by
  rw [cut_at (i := a.length)]
  · simp
  · simp
  · intro k hk he
    rw [List.getElem?_append_left hk] at he
    exact h (List.mem_of_getElem? he)
/-- Where the k-th line begins. -/
def offL (ls : List ByteArray) : Nat → Nat
  | 0 => 0
  | k + 1 => offL ls k + ((ls[k]?.getD ByteArray.empty).size + 1)
theorem offL_succ (ls : List ByteArray) (k : Nat) (hk : k < ls.length) : offL ls (k + 1) = offL ls k + (ls[k].size + 1) := by
  show _ + _ = _
  rw [List.getElem?_eq_getElem hk]; rfl
theorem map_drop_cons (ls : List ByteArray) (k : Nat) (hk : k < ls.length) : (ls.drop k).map (·.data.toList) = ls[k].data.toList :: (ls.drop (k + 1)).map (·.data.toList) := by
  rw [List.drop_eq_getElem_cons hk]; rfl
theorem pieces_off (s : ByteArray) : ∀ k, k ≤ (linesB s).length → pieces 10 (s.data.toList.drop (offL (linesB s) k)) = ((linesB s).drop k).map (·.data.toList) ++ [(restB s).data.toList]
  | 0, _ => by
    have h := cutAll_pieces 10 s
    rw [cut_snoc s] at h
    simp only [offL, List.drop_zero]
    rw [← h]; simp
  | k + 1, hk => by
    have ih := pieces_off s k (by omega)
    rw [map_drop_cons _ k (by omega)] at ih
    obtain ⟨l', h1, _, h3⟩ := pieces_two ih (by simp)
    rw [offL_succ _ k (by omega), ← List.drop_drop, h1, size_eq]
    rw [show (linesB s)[k].data.toList ++ 10 :: l' = ((linesB s)[k].data.toList ++ [10]) ++ l' by simp]
    rw [show (linesB s)[k].data.toList.length + 1 = ((linesB s)[k].data.toList ++ [10]).length by simp, List.drop_left]
    exact h3
theorem cut_line (s : ByteArray) (k : Nat) (hk : k < (linesB s).length) : (cut (s.data.toList.drop (offL (linesB s) k)) [10]).1 = (linesB s)[k].data.toList ∧ (cut (s.data.toList.drop (offL (linesB s) k)) [10]).2.2 = true ∧ offL (linesB s) k + (linesB s)[k].size + 1 ≤ s.size := by
  have h := pieces_off s k (by omega)
  rw [map_drop_cons _ k hk] at h
  obtain ⟨l', h1, h2, _⟩ := pieces_two h (by simp)
  have hl := congrArg List.length h1
  rw [h1, cut_mark h2]
  refine ⟨rfl, rfl, ?_⟩
  simp only [List.length_drop, List.length_append, List.length_cons] at hl
  rw [size_eq, size_eq]
  omega
theorem cut_rest (s : ByteArray) : (cut (s.data.toList.drop (offL (linesB s) (linesB s).length)) [10]).2.2 = false := by
  have h := pieces_off s (linesB s).length (Nat.le_refl _)
  simp only [List.drop_length, List.map_nil, List.nil_append] at h
  obtain ⟨h1, h2⟩ := pieces_one h
  rw [h1, cut_no h2]
theorem offL_le (s : ByteArray) : ∀ k, k ≤ (linesB s).length → offL (linesB s) k ≤ s.size
  | 0, _ => Nat.zero_le _
  | k + 1, hk => by
    have := (cut_line s k (by omega)).2.2
    rw [offL_succ _ k (by omega)]
    omega
/-- A line's number, and its text. -/
def numB (l : ByteArray) : ByteArray := ⟨(cut l.data.toList [32]).1.toArray⟩
def txtB (l : ByteArray) : ByteArray := ⟨(cut l.data.toList [32]).2.1.toArray⟩
def hasB (l : ByteArray) : Bool := (cut l.data.toList [32]).2.2
theorem hasB_no {l : ByteArray} (h : ∀ i (hi : i < l.size), l[i] ≠ 32) : hasB l = false := by
  unfold hasB
  rw [cut_no]
  intro hm
  obtain ⟨i, hi⟩ := List.mem_iff_getElem?.1 hm
  have hlt : i < l.size := by rw [size_eq]; exact (List.getElem?_eq_some_iff.1 hi).1
  rw [data_getElem? l i hlt] at hi
  exact h i hlt (Option.some.inj hi)
theorem hasB_at {l : ByteArray} {j : Nat} (hj : j < l.size) (h : l[j] = 32) (hno : ∀ i (hi : i < l.size), i < j → l[i] ≠ 32) : hasB l = true ∧ numB l = l.extract 0 j ∧ txtB l = l.extract (j + 1) l.size := by
  have hc : cut l.data.toList [32] = (l.data.toList.take j, l.data.toList.drop (j + 1), true) := by
    refine cut_at ?_ ?_
    · rw [data_getElem? l j hj, h]
    · intro i hi he
      have hlt : i < l.size := by omega
      rw [data_getElem? l i hlt] at he
      exact hno i hlt hi (Option.some.inj he)
  unfold hasB numB txtB
  rw [hc]
  refine ⟨rfl, ?_, ?_⟩
  · rw [← mk_data (l.extract 0 j), extract_data]; simp
  · rw [← mk_data (l.extract (j + 1) l.size), extract_data]
    have : l.data.toList.length = l.size := (size_eq l).symm
    rw [List.take_of_length_le (l := List.drop (j + 1) l.data.toList) (by simp)]
theorem hasB_join {l : ByteArray} (h : hasB l = true) : l.data.toList = (numB l).data.toList ++ 32 :: (txtB l).data.toList := by
  by_cases hm : (32 : UInt8) ∈ l.data.toList
  · obtain ⟨a, b, e, hno⟩ := List.eq_append_cons_of_mem hm
    unfold numB txtB
    rw [e, cut_mark hno]
  · unfold hasB at h
    rw [cut_no hm] at h
    cases h
theorem txtB_size (l : ByteArray) : (txtB l).size ≤ l.size := by
  by_cases hm : (32 : UInt8) ∈ l.data.toList
  · obtain ⟨a, b, e, hno⟩ := List.eq_append_cons_of_mem hm
    rw [size_eq, size_eq]
    unfold txtB
    rw [e, cut_mark hno]
    simp; omega
  · rw [size_eq]
    unfold txtB
    rw [cut_no hm]
    simp
end Go.Tx
namespace Go.Proofs.YtfhmlhocaldioaaDoor
set_option linter.unusedSimpArgs false
set_option linter.unusedVariables false
open Go.RowKit Go.Fl Go.Tx Go.Lib
/-- The check number ahead of the k-th line. -/
def nAt (ls : List ByteArray) : Nat → Int
  | 0 => 0
  | k + 1 => chk (nAt ls k) (txtB (ls[k]?.getD ByteArray.empty))
theorem nAt_succ (ls : List ByteArray) (k : Nat) (hk : k < ls.length) : nAt ls (k + 1) = chk (nAt ls k) (txtB ls[k]) := by
  show chk _ _ = _
  rw [List.getElem?_eq_getElem hk]; rfl
theorem nAt_bound (ls : List ByteArray) : ∀ k, 0 ≤ nAt ls k ∧ nAt ls k ≤ 65002
  | 0 => ⟨Int.le_refl _, by show (0 : Int) ≤ 65002; decide⟩
  | k + 1 => chk_bound _ _ (nAt_bound ls k).1 (nAt_bound ls k).2
/-- A line whose number is its text's. -/
def goodL (n : Int) (l : ByteArray) : Prop := hasB l = true ∧ numB l = decB (chk n (txtB l))
/-- How many lines are recovered. -/
def IsK (ls : List ByteArray) (K : Nat) : Prop := K ≤ ls.length ∧ (∀ j (hj : j < ls.length), j < K → goodL (nAt ls j) ls[j]) ∧ ∀ h : K < ls.length, ¬ goodL (nAt ls K) ls[K]
theorem IsK.unique {ls : List ByteArray} {K K' : Nat} (h : IsK ls K) (h' : IsK ls K') : K = K' := by
  rcases Nat.lt_trichotomy K K' with hlt | rfl | hlt
  · have hl : K < ls.length := by have := h'.1; omega
    exact absurd (h'.2.1 K hl hlt) (h.2.2 hl)
  · rfl
  · have hl : K' < ls.length := by have := h.1; omega
    exact absurd (h.2.1 K' hl hlt) (h'.2.2 hl)
def outL (ls : List ByteArray) (k : Nat) : List ByteArray := (ls.take k).map txtB
theorem outL_succ (ls : List ByteArray) (k : Nat) (hk : k < ls.length) : outL ls (k + 1) = outL ls k ++ [txtB ls[k]] := by
  unfold outL
  rw [List.take_succ_eq_append_getElem hk, List.map_append]; rfl
theorem outL_len (ls : List ByteArray) (k : Nat) : (outL ls k).length ≤ k := by unfold outL; simp; omega
/-- The line made anew is the line just where its number is its text's. -/
theorem made_iff (n : Int) (l : ByteArray) (h : hasB l = true) : jLine n (txtB l) = l ++ ⟨#[10]⟩ ↔ goodL n l := by
  have hj := hasB_join h
  have e1 : (jLine n (txtB l)).data.toList = (decB (chk n (txtB l))).data.toList ++ 32 :: ((txtB l).data.toList ++ [10]) := by
    unfold jLine
    simp
  have e2 : (l ++ ⟨#[10]⟩).data.toList = (numB l).data.toList ++ 32 :: ((txtB l).data.toList ++ [10]) := by
    simp [hj]
  constructor
  · intro he
    refine ⟨h, ?_⟩
    have := congrArg (fun x : ByteArray => x.data.toList) he
    simp only [e1, e2] at this
    have hl := congrArg List.length this
    simp only [List.length_append, List.length_cons] at hl
    obtain ⟨h1, _⟩ := List.append_inj this (by omega)
    rw [← mk_data (numB l), ← mk_data (decB _), h1]
  · rintro ⟨_, h2⟩
    rw [← mk_data (jLine n (txtB l)), e1, ← h2, ← e2, mk_data]
theorem made_size (n : Int) (l : ByteArray) (h : jLine n (txtB l) = l ++ ⟨#[10]⟩) : (jLine n (txtB l)).size = l.size + 1 := by
  rw [h, size_app]; rfl
end Go.Proofs.YtfhmlhocaldioaaDoor
