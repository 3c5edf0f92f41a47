/- Plain laws of texts: the pieces between marks. -/
import Derived.Lib.Split
import Derived.Lib.IndexBytes
import Derived.Lib.IndexLaws
namespace Go.Tx
open Go Go.Lib

/-- The pieces of a text between marks. -/
def pieces (c : UInt8) : List UInt8 → List (List UInt8)
  | [] => [[]]
  | x :: xs => if x = c then [] :: pieces c xs else match pieces c xs with
    | [] => [[x]]
    | p :: ps => (x :: p) :: ps
theorem pieces_ne (c : UInt8) (l : List UInt8) : pieces c l ≠ [] := by
  cases l with
  | nil => simp [pieces]
  | cons x xs =>
    unfold pieces
    split
    · simp
    · split <;> simp
theorem pieces_cons (c : UInt8) {x : UInt8} (h : x ≠ c) (xs : List UInt8) : ∃ p ps, pieces c xs = p :: ps ∧ pieces c (x :: xs) = (x :: p) :: ps := by
  obtain ⟨p, ps, e⟩ := List.exists_cons_of_ne_nil (pieces_ne c xs)
  exact ⟨p, ps, e, by simp [pieces, h, e]⟩
theorem pieces_mark (c : UInt8) (a b : List UInt8) (h : c ∉ a) : pieces c (a ++ c :: b) = a :: pieces c b := by
  induction a with
  | nil => simp [pieces]
  | cons x a ih =>
    have hx : x ≠ c := fun e => h (by simp [e])
    have := ih (fun hm => h (by simp [hm]))
    simp only [List.cons_append, pieces, if_neg hx, this]
theorem pieces_none (c : UInt8) (a : List UInt8) (h : c ∉ a) : pieces c a = [a] := by
  induction a with
  | nil => rfl
  | cons x a ih =>
    have hx : x ≠ c := fun e => h (by simp [e])
    simp only [pieces, if_neg hx, ih (fun hm => h (by simp [hm]))]
/-- One byte more. -/
theorem pieces_snoc_mark (c : UInt8) (l : List UInt8) : pieces c (l ++ [c]) = pieces c l ++ [[]] := by
  induction l with
  | nil => simp [pieces]
  | cons x l ih =>
    by_cases hx : x = c
    · simp [pieces, hx, ih]
    · obtain ⟨p, ps, e1, e2⟩ := pieces_cons c hx l
      rw [e2]
      simp only [List.cons_append, pieces, if_neg hx, ih, e1]
theorem pieces_snoc_other (c : UInt8) (l : List UInt8) {x : UInt8} (hx : x ≠ c) (a : List (List UInt8)) (b : List UInt8) (h : pieces c l = a ++ [b]) : pieces c (l ++ [x]) = a ++ [b ++ [x]] := by
  induction l generalizing a b with
  | nil =>
    simp only [pieces] at h
    have h' := congrArg List.length h
    simp at h'
    subst h'
    simp at h
    subst h
    simp [pieces, hx]
  | cons y l ih =>
    by_cases hy : y = c
    · simp only [pieces, if_pos hy] at h
      match a, h with
      | [], h =>
        simp only [List.nil_append, List.cons.injEq] at h
        exact absurd h.2 (pieces_ne c l)
      | z :: a, h =>
        simp only [List.cons_append, List.cons.injEq] at h
        simp only [List.cons_append, pieces, if_pos hy, ih a b h.2, ← h.1]
    · obtain ⟨p, ps, e1, e2⟩ := pieces_cons c hy l
      rw [e2] at h
      match a, h with
      | [], h =>
        simp only [List.nil_append, List.cons.injEq] at h
        obtain ⟨rfl, rfl⟩ := h
        have := ih [] p (by simpa using e1)
        simp only [List.cons_append, pieces, if_neg hy, this, List.nil_append]
      | z :: a, h =>
        simp only [List.cons_append, List.cons.injEq] at h
        obtain ⟨rfl, rfl⟩ := h
        have := ih (p :: a) b (by simpa using e1)
        simp only [List.cons_append, pieces, if_neg hy, this]
/-- The library's pieces. -/
theorem splitK_pieces (c : UInt8) : ∀ (n : Nat) (s : List UInt8), s.length < n → splitK [c] 0 (count s [c]) s = pieces c s
  | 0, _, h => absurd h (by omega)
  | n + 1, s, h => by
    by_cases hi : index s [c] = -1
    · rw [count_miss hi]
      show [s] = _
      rw [pieces_none]
      intro hm
      obtain ⟨k, hk, e⟩ := List.getElem_of_mem hm
      rw [index_one] at hi
      exact indexByte_none hi k (by rw [List.getElem?_eq_getElem hk, e])
    · have hge := index_ge s [c]
      obtain ⟨i, hi'⟩ : ∃ i : Nat, index s [c] = i := ⟨(index s [c]).toNat, by omega⟩
      rw [count_hit (by simp) hi', Nat.add_comm]
      unfold splitK
      rw [if_neg (by simpa using hi), hi']
      rw [index_one] at hi'
      obtain ⟨h1, h2⟩ := indexByte_some hi'
      have hlt : i < s.length := (List.getElem?_eq_some_iff.1 h1).1
      have hget : s[i] = c := (List.getElem?_eq_some_iff.1 h1).2
      have hsplit : s = s.take i ++ c :: s.drop (i + 1) := by
        conv => lhs; rw [← List.take_append_drop i s]
        rw [List.drop_eq_getElem_cons hlt, hget]
      have hno : c ∉ s.take i := by
        intro hm
        obtain ⟨k, hk, e⟩ := List.getElem_of_mem hm
        simp at hk
        exact h2 k (by omega) (by rw [List.getElem?_eq_getElem (by omega)]; simpa using e)
      simp only [Int.toNat_natCast, Nat.add_zero, List.length_singleton]
      rw [splitK_pieces c n (s.drop (i + 1)) (by simp; omega)]
      conv => rhs; rw [hsplit]
      rw [pieces_mark c _ _ hno]

/-- What the loop of the reference has cut behind k bytes: the pieces, and where the next one begins. -/
def cutTo (c : UInt8) (s : ByteArray) : Nat → List ByteArray × Nat
  | 0 => ([], 0)
  | k + 1 => if k = s.size ∨ s.data.toList[k]? = some c then ((cutTo c s k).1 ++ [s.extract (cutTo c s k).2 k], k + 1) else cutTo c s k
def cutAll (c : UInt8) (s : ByteArray) : List ByteArray := (cutTo c s (s.size + 1)).1
theorem cutTo_len (c : UInt8) (s : ByteArray) : ∀ k, (cutTo c s k).1.length ≤ k ∧ (cutTo c s k).2 ≤ k
  | 0 => by simp [cutTo]
  | k + 1 => by
    have := cutTo_len c s k
    unfold cutTo
    split
    · simp; omega
    · omega
theorem cutTo_pieces (c : UInt8) (s : ByteArray) : ∀ k, k ≤ s.size → pieces c (s.data.toList.take k) = (cutTo c s k).1.map (·.data.toList) ++ [(s.data.toList.take k).drop (cutTo c s k).2]
  | 0, _ => by simp [cutTo, pieces]
  | k + 1, hk => by
    have ih := cutTo_pieces c s k (by omega)
    have hl := (cutTo_len c s k).2
    have hlt : k < s.data.toList.length := by rw [← size_eq]; omega
    have hts : s.data.toList.take (k + 1) = s.data.toList.take k ++ [s.data.toList[k]] := List.take_succ_eq_append_getElem hlt
    by_cases hc : s.data.toList[k] = c
    · have e1 : cutTo c s (k + 1) = ((cutTo c s k).1 ++ [s.extract (cutTo c s k).2 k], k + 1) := by
        rw [cutTo, if_pos (.inr (by rw [List.getElem?_eq_getElem hlt, hc]))]
      rw [e1, hts, hc, pieces_snoc_mark, ih]
      simp only [List.map_append, List.map_cons, List.map_nil, extract_data, List.append_assoc]
      congr 1
      rw [List.drop_eq_nil_of_le (as := List.take k s.data.toList ++ [c]) (by simp; omega)]
      simp only [List.cons_append, List.nil_append, List.cons.injEq, and_true]
      rw [List.drop_take]
    · have e1 : cutTo c s (k + 1) = cutTo c s k := by
        rw [cutTo, if_neg]
        rintro (h | h)
        · omega
        · rw [List.getElem?_eq_getElem hlt] at h
          exact hc (by simpa using h)
      rw [e1, hts, pieces_snoc_other c _ hc _ _ ih]
      rw [List.drop_append_of_le_length (by simp; omega)]
theorem cutAll_pieces (c : UInt8) (s : ByteArray) : (cutAll c s).map (·.data.toList) = pieces c s.data.toList := by
  have h := cutTo_pieces c s s.size (Nat.le_refl _)
  have hl : s.data.toList.length = s.size := (size_eq s).symm
  rw [List.take_of_length_le (by omega)] at h
  unfold cutAll
  rw [cutTo, if_pos (.inl rfl), h]
  simp only [List.map_append, List.map_cons, List.map_nil, extract_data]
  congr 2
  exact List.take_of_length_le (by rw [List.length_drop, hl]; exact Nat.le_refl _)
theorem map_data_inj {a b : List ByteArray} (h : a.map (·.data.toList) = b.map (·.data.toList)) : a = b := by
  refine List.map_inj_right (f := fun x : ByteArray => x.data.toList) (fun x y e => ?_) |>.1 h
  have e' : x.data.toList = y.data.toList := e
  rw [← mk_data x, ← mk_data y, e']
/-- The library's pieces are the reference's. -/
theorem splitB_cutAll (c : UInt8) (s sep : ByteArray) (hs : sep.data.toList = [c]) : splitB sep 0 (countB s sep) s = cutAll c s := by
  apply map_data_inj
  rw [splitB_data, cutAll_pieces, hs]
  show splitK [c] 0 (count s.data.toList sep.data.toList) _ = _
  rw [hs]
  exact splitK_pieces c _ _ (Nat.lt_succ_self _)
theorem countB_len (c : UInt8) (s sep : ByteArray) (hs : sep.data.toList = [c]) : (cutAll c s).length = countB s sep + 1 := by
  have hp : ∀ n (l : List UInt8), l.length < n → (pieces c l).length = count l [c] + 1 := by
    intro n
    induction n with
    | zero => intro l h; omega
    | succ n ih =>
      intro l h
      rw [← splitK_pieces c _ l (Nat.lt_succ_self _)]
      by_cases hi : index l [c] = -1
      · rw [count_miss hi]; rfl
      · have hge := index_ge l [c]
        obtain ⟨i, hi'⟩ : ∃ i : Nat, index l [c] = i := ⟨(index l [c]).toNat, by omega⟩
        have hlt := indexByte_some (by rw [index_one] at hi'; exact hi')
        have hlt : i < l.length := (List.getElem?_eq_some_iff.1 hlt.1).1
        rw [count_hit (by simp) hi', Nat.add_comm 1]
        unfold splitK
        rw [if_neg (by simpa using hi), hi']
        simp only [Int.toNat_natCast, List.length_cons, List.length_nil]
        rw [splitK_pieces c _ _ (Nat.lt_succ_self _), ih _ (by simp; omega)]
  have := hp _ s.data.toList (Nat.lt_succ_self _)
  rw [← cutAll_pieces, List.length_map] at this
  rw [this]
  show _ = count s.data.toList sep.data.toList + 1
  rw [hs]
theorem cutAll_len (c : UInt8) (s : ByteArray) : 1 ≤ (cutAll c s).length ∧ (cutAll c s).length ≤ s.size + 1 := by
  have h1 := (cutTo_len c s (s.size + 1)).1
  refine ⟨?_, h1⟩
  have := congrArg List.length (cutAll_pieces c s)
  rw [List.length_map] at this
  rw [this]
  exact List.length_pos_iff.2 (pieces_ne c _)
/-- Lines: what stands ahead of the last mark, and what is left behind it. -/
def linesB (s : ByteArray) : List ByteArray := (cutAll 10 s).dropLast
def restB (s : ByteArray) : ByteArray := (cutAll 10 s).getLastD ByteArray.empty
theorem cut_snoc (s : ByteArray) : cutAll 10 s = linesB s ++ [restB s] := by
  have h : cutAll 10 s ≠ [] := by have := (cutAll_len 10 s).1; intro e; rw [e] at this; simp at this
  unfold linesB restB
  rw [List.getLastD_eq_getLast?, List.getLast?_eq_some_getLast h]
  exact (List.dropLast_concat_getLast h).symm
/-- A text that ends with a newline. -/
theorem lines_of_suffix (s body : ByteArray) (h : s.data.toList = body.data.toList ++ [10]) : linesB s = cutAll 10 body ∧ restB s = ByteArray.empty := by
  have h1 := cutAll_pieces 10 s
  rw [h, pieces_snoc_mark, ← cutAll_pieces 10 body, cut_snoc s] at h1
  have h2 : (linesB s ++ [restB s]) = cutAll 10 body ++ [ByteArray.empty] := map_data_inj (by rw [h1]; simp)
  obtain ⟨a, b⟩ := List.append_inj' h2 rfl
  exact ⟨a, by simpa using b⟩
theorem last_piece (c : UInt8) : ∀ (l : List UInt8) (a : List (List UInt8)), pieces c l = a ++ [[]] → l = [] ∨ ∃ b, l = b ++ [c] := by
  intro l a h
  rcases List.eq_nil_or_concat l with rfl | ⟨l, x, rfl⟩
  · exact .inl rfl
  · right
    rw [List.concat_eq_append] at h ⊢
    by_cases hx : x = c
    · exact ⟨l, by rw [hx]⟩
    · exfalso
      obtain ⟨b, hb⟩ : ∃ b, pieces c l = b ++ [(pieces c l).getLast (pieces_ne c l)] := ⟨_, (List.dropLast_concat_getLast (pieces_ne c l)).symm⟩
      rw [pieces_snoc_other c l hx _ _ hb] at h
      have := (List.append_inj' h rfl).2
      simp at this
/-- Nothing is left behind the last newline just where the text is empty or ends with one. -/
theorem rest_empty (s : ByteArray) (h : restB s = ByteArray.empty) : s.data.toList = [] ∨ ∃ b, s.data.toList = b ++ [10] := by
  have h1 := cutAll_pieces 10 s
  rw [cut_snoc s, h, List.map_append] at h1
  exact last_piece 10 _ _ h1.symm
end Go.Tx
