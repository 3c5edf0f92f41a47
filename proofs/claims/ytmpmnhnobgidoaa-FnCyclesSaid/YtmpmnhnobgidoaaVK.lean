/- Ends and cycles of small whole loads: the same on whole numbers, the last ones first. -/
import Derived.Test.YtmpmnhnobgidoaaVG
namespace Go.Proofs.Ytmpmnhnobgidoaa
set_option linter.unusedSimpArgs false
set_option linter.unusedVariables false
open Go.RowKit Go.Fl Go.Lib

/-- A small whole number, whatever its word. -/
def IsV (x : Nat) : Prop := ∃ k : Int, Rv .f32 x (k : Rat) ∧ -8 ≤ k ∧ k ≤ 8
noncomputable def iv (x : Nat) : Int := @dite _ (∃ k : Int, Rv .f32 x (k : Rat)) (Classical.propDecidable _) (fun h => Classical.choose h) (fun _ => 0)
theorem iv_is {x : Nat} {k : Int} (h : Rv .f32 x (k : Rat)) : iv x = k := by
  have hex : ∃ k : Int, Rv .f32 x (k : Rat) := ⟨k, h⟩
  unfold iv
  rw [dif_pos hex]
  exact Rat.intCast_inj.1 ((Classical.choose_spec hex).unique h)
theorem IsV.rv {x : Nat} (h : IsV x) : Rv .f32 x (iv x : Rat) ∧ -8 ≤ iv x ∧ iv x ≤ 8 := by
  obtain ⟨k, h1, h2⟩ := h
  rw [iv_is h1]; exact ⟨h1, h2⟩
theorem iv_zero : iv 0 = 0 := iv_is (rv_zero' .f32)
theorem feq_iv {x y : Nat} (hx : IsV x) (hy : IsV y) : feq .f32 x y = decide (iv x = iv y) := by
  rw [feq_q hx.rv.1 hy.rv.1, decide_eq_decide]; exact Rat.intCast_inj
theorem flt_iv {x y : Nat} (hx : IsV x) (hy : IsV y) : flt .f32 x y = decide (iv x < iv y) := by
  rw [flt_q hx.rv.1 hy.rv.1, decide_eq_decide]; exact Rat.intCast_lt_intCast
theorem fgt_iv {x y : Nat} (hx : IsV x) (hy : IsV y) : fgt .f32 x y = decide (iv y < iv x) := by
  rw [fgt_q hx.rv.1 hy.rv.1, decide_eq_decide]; exact Rat.intCast_lt_intCast
/-! Ends. -/
def endR (x : Int) : List Int → List Int
  | [] => [x]
  | [a] => if x = a then [a] else [x, a]
  | a :: b :: r => if x = a then a :: b :: r else if (b < a ∧ a < x) ∨ (a < b ∧ x < a) then x :: b :: r else x :: a :: b :: r
theorem endR_two (x a b : Int) (r : List Int) : endR x (a :: b :: r) = if x = a then a :: b :: r else if (b < a ∧ a < x) ∨ (a < b ∧ x < a) then x :: b :: r else x :: a :: b :: r := rfl
theorem last_snoc (ys : List Nat) (a : Nat) : lastOf (ys ++ [a]) = a := by unfold lastOf; simp
theorem prev_snoc (ys : List Nat) (b a : Nat) : prevOf (ys ++ [b] ++ [a]) = b := by
  unfold prevOf
  rw [List.getD_eq_getElem?_getD]
  simp
theorem set_snoc (ys : List Nat) (a x : Nat) : (ys ++ [a]).set ((ys ++ [a]).length - 1) x = ys ++ [x] := by simp
/-- The values, the last first. -/
noncomputable def rv (zs : List Nat) : List Int := (zs.map iv).reverse
theorem rv_snoc (zs : List Nat) (x : Nat) : rv (zs ++ [x]) = iv x :: rv zs := by unfold rv; simp
theorem snoc_cases (zs : List Nat) : zs = [] ∨ (∃ a, zs = [a]) ∨ ∃ ys b a, zs = ys ++ [b] ++ [a] := by
  rcases List.eq_nil_or_concat zs with rfl | ⟨ys, a, rfl⟩
  · exact .inl rfl
  · rcases List.eq_nil_or_concat ys with rfl | ⟨zs, b, rfl⟩
    · exact .inr (.inl ⟨a, rfl⟩)
    · exact .inr (.inr ⟨zs, b, a, by simp⟩)
theorem endStep_rv {zs : List Nat} {x : Nat} (h : ∀ y ∈ zs, IsV y) (hx : IsV x) : rv (endStep zs x) = endR (iv x) (rv zs) := by
  rcases snoc_cases zs with rfl | ⟨a, rfl⟩ | ⟨ys, b, a, rfl⟩
  · rfl
  · have ha := h a (by simp)
    have hl : lastOf [a] = a := rfl
    unfold endStep
    rw [if_neg (by simp), hl, feq_iv hx ha]
    show _ = endR (iv x) [iv a]
    unfold endR
    by_cases he : iv x = iv a
    · simp [he, rv]
    · simp [he, rv]
  · have ha := h a (by simp)
    have hb := h b (by simp)
    have hlen : (ys ++ [b] ++ [a]).length = ys.length + 2 := by simp
    unfold endStep onward
    rw [if_neg (by rw [hlen]; omega), last_snoc, prev_snoc, feq_iv hx ha, fgt_iv ha hb, flt_iv ha hx, flt_iv ha hb, fgt_iv ha hx, set_snoc]
    have hr : rv (ys ++ [b] ++ [a]) = iv a :: iv b :: rv ys := by rw [rv_snoc, rv_snoc]
    rw [hr, endR_two]
    by_cases he : iv x = iv a
    · rw [if_pos (by simpa using he), if_pos he, hr]
    · rw [if_neg (by simpa using he), if_neg (by rw [hlen]; omega), if_neg he]
      by_cases ho : (iv b < iv a ∧ iv a < iv x) ∨ (iv a < iv b ∧ iv x < iv a)
      · rw [if_pos ho, if_pos (by simpa using ho), rv_snoc, rv_snoc]
      · rw [if_neg ho, if_neg (by simpa using ho), rv_snoc, hr]
def endsR : List Int → List Int → List Int
  | [], z => z
  | x :: xs, z => endsR xs (endR x z)
theorem foldl_rv : ∀ (xs : List Nat) (zs : List Nat), (∀ x ∈ xs, IsV x) → (∀ y ∈ zs, IsV y) → rv (xs.foldl endStep zs) = endsR (xs.map iv) (rv zs)
  | [], _, _, _ => rfl
  | x :: xs, zs, h, hz => by
    show rv (xs.foldl endStep (endStep zs x)) = endsR (xs.map iv) (endR (iv x) (rv zs))
    rw [foldl_rv xs (endStep zs x) (fun y hy => h y (List.mem_cons_of_mem _ hy)) (endStep_P hz (h x (List.mem_cons_self ..))), endStep_rv hz (h x (List.mem_cons_self ..))]
theorem ends_rv {xs : List Nat} (h : ∀ x ∈ xs, IsV x) : rv (ends xs) = endsR (xs.map iv) [] := foldl_rv xs [] h (fun _ h => by cases h)
/-! Cycles. -/
structure IC where
  lo : Int
  hi : Int
  wh : Bool
def icOf (a b : Int) (wh : Bool) : IC := if b < a then ⟨b, a, wh⟩ else ⟨a, b, wh⟩
def ab (a b : Int) : Nat := (a - b).natAbs
/-- The stack, its last first, and what is found. -/
abbrev RS := List Int × List IC
def cstR (s : RS) : RS :=
  match s.1 with
  | x :: y :: z :: r => if ab z y ≤ ab y x then ((if r = [] then [x, y] else x :: r), s.2 ++ [icOf z y (decide (r ≠ []))]) else s
  | _ => s
def iterR : Nat → RS → RS
  | 0, s => s
  | k + 1, s => cstR (iterR k s)
def redR (s : RS) : RS := iterR s.1.length s
def pushR (s : RS) (x : Int) : RS := (x :: s.1, s.2)
def runR (es : List Int) : RS := es.foldl (fun s x => redR (pushR s x)) ([], [])
/-- What is left, from the first on. -/
def tailF : List Int → List IC
  | a :: b :: r => icOf a b false :: tailF (b :: r)
  | _ => []
def cycR (ks : List Int) : List IC := (runR (endsR ks []).reverse).2 ++ tailF (runR (endsR ks []).reverse).1.reverse
noncomputable def ic (c : Cyc) : IC := ⟨iv c.lo, iv c.hi, c.wh⟩
theorem pair_iv {a b : Nat} (wh : Bool) (ha : IsV a) (hb : IsV b) : ic (pair a b wh) = icOf (iv a) (iv b) wh := by
  unfold pair icOf
  rw [flt_iv hb ha]
  by_cases h : iv b < iv a
  · rw [if_pos (by simpa using h), if_pos h]; rfl
  · rw [if_neg (by simpa using h), if_neg h]; rfl
theorem rng_iv {a b : Nat} (wh : Bool) (ha : IsV a) (hb : IsV b) : Rv .f32 (rng (pair a b wh)) ((ab (iv a) (iv b) : Int) : Rat) := by
  obtain ⟨h1, h2, h3⟩ := ha.rv
  obtain ⟨g1, g2, g3⟩ := hb.rv
  unfold rng pair
  rw [flt_iv hb ha]
  unfold ab
  by_cases h : iv b < iv a
  · rw [if_pos (by simpa using h)]
    have := sub_int h1 g1 (by show _ < 2 ^ 24; omega)
    rwa [show iv a - iv b = ((iv a - iv b).natAbs : Int) by omega] at this
  · rw [if_neg (by simpa using h)]
    have := sub_int g1 h1 (by show _ < 2 ^ 24; omega)
    rwa [show iv b - iv a = ((iv a - iv b).natAbs : Int) by omega] at this
theorem at3_one (ys : List Nat) (z y x : Nat) : at3 (ys ++ [z] ++ [y] ++ [x]) 1 = x ∧ at3 (ys ++ [z] ++ [y] ++ [x]) 2 = y ∧ at3 (ys ++ [z] ++ [y] ++ [x]) 3 = z := by
  unfold at3
  refine ⟨?_, ?_, ?_⟩ <;> (rw [List.getD_eq_getElem?_getD]; simp)
theorem snoc3 (zs : List Nat) (h : 3 ≤ zs.length) : ∃ ys z y x, zs = ys ++ [z] ++ [y] ++ [x] := by
  rcases List.eq_nil_or_concat zs with rfl | ⟨us, x, rfl⟩
  · simp at h
  · rcases List.eq_nil_or_concat us with rfl | ⟨bs, y, rfl⟩
    · simp at h
    · rcases List.eq_nil_or_concat bs with rfl | ⟨cs, z, rfl⟩
      · simp at h
      · exact ⟨cs, z, y, x, by simp⟩
noncomputable def sim (s : CS) : RS := (rv s.1, s.2.map ic)
theorem rv_len (zs : List Nat) : (rv zs).length = zs.length := by unfold rv; simp
theorem sim_short {s : CS} (h : ¬ 3 ≤ s.1.length) : cstR (sim s) = sim s := by
  have hl : (sim s).1.length = s.1.length := rv_len _
  generalize sim s = t at *
  obtain ⟨l, o⟩ := t
  rcases l with _ | ⟨a, _ | ⟨b, _ | ⟨c, r⟩⟩⟩
  · rfl
  · rfl
  · rfl
  · exfalso; simp at hl; omega
theorem sim_cst {s : CS} (h : PInv IsV s) : sim (cst s) = cstR (sim s) := by
  by_cases hl : 3 ≤ s.1.length
  case neg =>
    rw [sim_short hl]
    unfold cst due
    rw [if_neg (by simp [hl])]
  obtain ⟨l, o⟩ := s
  obtain ⟨ys, z, y, x, e⟩ := snoc3 l hl
  subst e
  obtain ⟨a1, a2, a3⟩ := at3_one ys z y x
  have hx := h.st x (by simp)
  have hy := h.st y (by simp)
  have hz := h.st z (by simp)
  have hlen : (ys ++ [z] ++ [y] ++ [x]).length = ys.length + 3 := by simp
  have hr : rv (ys ++ [z] ++ [y] ++ [x]) = iv x :: iv y :: iv z :: rv ys := by rw [rv_snoc, rv_snoc, rv_snoc]
  have hd : due (ys ++ [z] ++ [y] ++ [x], o) = decide (ab (iv z) (iv y) ≤ ab (iv y) (iv x)) := by
    unfold due
    simp only [a1, a2, a3]
    rw [flt_q (rng_iv _ hy hx) (rng_iv _ hz hy), decide_eq_true hl, Bool.true_and, ← decide_not, decide_eq_decide, Rat.intCast_lt_intCast]
    omega
  have hc : cstR (sim (ys ++ [z] ++ [y] ++ [x], o)) = if ab (iv z) (iv y) ≤ ab (iv y) (iv x) then ((if rv ys = [] then [iv x, iv y] else iv x :: rv ys), o.map ic ++ [icOf (iv z) (iv y) (decide (rv ys ≠ []))]) else sim (ys ++ [z] ++ [y] ++ [x], o) := by
    unfold sim
    simp only [hr]
    rfl
  rw [hc]
  unfold cst
  rw [hd]
  by_cases hg : ab (iv z) (iv y) ≤ ab (iv y) (iv x)
  · rw [if_pos (by simpa using hg), if_pos hg]
    unfold sim
    refine Prod.ext ?_ ?_
    · show rv (left (ys ++ [z] ++ [y] ++ [x])) = if rv ys = [] then [iv x, iv y] else iv x :: rv ys
      unfold left
      rw [a1]
      cases ys with
      | nil => rfl
      | cons u us =>
        rw [if_neg (by simp), if_neg (by intro h'; have := congrArg List.length h'; rw [rv_len] at this; simp at this), ← rv_snoc]
        congr 2
        rw [hlen, Nat.add_sub_cancel, List.append_assoc, List.append_assoc, List.take_left']
        rfl
    · show (o ++ [found (ys ++ [z] ++ [y] ++ [x])]).map ic = o.map ic ++ [icOf (iv z) (iv y) (decide (rv ys ≠ []))]
      rw [List.map_append]
      congr 1
      show [ic (found _)] = _
      unfold found
      rw [a2, a3, pair_iv _ hz hy, hlen]
      congr 2
      rw [decide_eq_decide]
      cases ys with
      | nil => simp [rv]
      | cons u us =>
        refine ⟨fun _ h' => ?_, fun _ => by simp⟩
        have := congrArg List.length h'
        rw [rv_len] at this
        simp at this
  · rw [if_neg (by simpa using hg), if_neg hg]
theorem sim_iter {s : CS} (h : PInv IsV s) : ∀ k, sim (iter k s) = iterR k (sim s)
  | 0 => rfl
  | k + 1 => by
    show sim (cst (iter k s)) = cstR (iterR k (sim s))
    rw [sim_cst (h.iter k), sim_iter h k]
theorem sim_red {s : CS} (h : PInv IsV s) : sim (red s) = redR (sim s) := by
  unfold red redR
  rw [sim_iter h]
  congr 1
  exact (rv_len _).symm
theorem sim_push (s : CS) (x : Nat) : sim (push s x) = pushR (sim s) (iv x) := by
  unfold sim push pushR
  rw [rv_snoc]
theorem sim_cycTo {es : List Nat} (h : ∀ x ∈ es, IsV x) : ∀ k, k ≤ es.length → sim (cycTo es k) = runR ((es.take k).map iv)
  | 0, _ => rfl
  | k + 1, hk => by
    have hx := h _ (List.getElem_mem (show k < es.length by omega))
    have hp := (cycTo_P es h k (by omega)).push hx
    have ht : es.take (k + 1) = es.take k ++ [es[k]] := by rw [List.take_succ_eq_append_getElem]
    rw [cycTo_succ es k (by omega), sim_red hp, sim_push, sim_cycTo h k (by omega), ht, List.map_append]
    unfold runR
    rw [List.foldl_append]
    rfl
theorem tails_iv : ∀ l : List Nat, (∀ x ∈ l, IsV x) → (tails l (l.length - 1)).map ic = tailF (l.map iv)
  | [], _ => rfl
  | [a], _ => rfl
  | a :: b :: r, h => by
    have ih := tails_iv (b :: r) (fun x hx => h x (List.mem_cons_of_mem _ hx))
    show _ = icOf (iv a) (iv b) false :: tailF ((b :: r).map iv)
    rw [← ih, ← pair_iv false (h a (by simp)) (h b (by simp))]
    unfold tails
    rw [show (a :: b :: r).length - 1 = (b :: r).length - 1 + 1 by simp, List.range_succ_eq_map]
    simp
theorem cyc_iv {xs : List Nat} (h : ∀ x ∈ xs, IsV x) : (cycles xs).map ic = cycR (xs.map iv) := by
  have he := ends_rv h
  have hm : (ends xs).map iv = (endsR (xs.map iv) []).reverse := by rw [← he]; unfold rv; simp
  have hs := sim_cycTo (ends_P h) _ (Nat.le_refl _)
  rw [List.take_length, hm] at hs
  unfold cycles cycR
  rw [List.map_append, tails_iv _ (cycTo_P _ (ends_P h) _ (Nat.le_refl _)).st, ← hs]
  congr 1
  unfold sim rv
  simp
end Go.Proofs.Ytmpmnhnobgidoaa
