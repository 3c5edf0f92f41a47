/- The cycles of loads: what is counted; slices of numbers that begin anywhere; append of a cycle. -/
import Derived.Test.YtmpmnhnobgidoaaYA
import Derived.Test.YtmpmnhnobgidoaaI
import Derived.Deep.RegionHeld3
import Derived.ArgAppend
namespace Go.Proofs.Ytmpmnhnobgidoaa
set_option linter.unusedSimpArgs false
set_option linter.unusedVariables false
open Go.RowKit Go.Fl

/-- What is left of the ends, and the cycles that were found. -/
abbrev CS := List Nat × List Cyc
def at3 (l : List Nat) (i : Nat) : Nat := l.getD (l.length - i) 0
def due (s : CS) : Bool := decide (3 ≤ s.1.length) && !flt .f32 (rng (pair (at3 s.1 2) (at3 s.1 1) true)) (rng (pair (at3 s.1 3) (at3 s.1 2) (decide (3 < s.1.length))))
def found (l : List Nat) : Cyc := pair (at3 l 3) (at3 l 2) (decide (3 < l.length))
def left (l : List Nat) : List Nat := if l.length = 3 then l.tail else l.take (l.length - 3) ++ [at3 l 1]
def cst (s : CS) : CS := if due s then (left s.1, s.2 ++ [found s.1]) else s
def iter : Nat → CS → CS
  | 0, s => s
  | k + 1, s => cst (iter k s)
def red (s : CS) : CS := iter s.1.length s
def push (s : CS) (x : Nat) : CS := (s.1 ++ [x], s.2)
def cycTo (es : List Nat) (k : Nat) : CS := (es.take k).foldl (fun s x => red (push s x)) ([], [])
def tails (l : List Nat) (k : Nat) : List Cyc := (List.range k).map fun i => pair (l.getD i 0) (l.getD (i + 1) 0) false
def cycles (xs : List Nat) : List Cyc := (cycTo (ends xs) (ends xs).length).2 ++ tails (cycTo (ends xs) (ends xs).length).1 ((cycTo (ends xs) (ends xs).length).1.length - 1)

theorem left_length {l : List Nat} (h : 3 ≤ l.length) : (left l).length + 1 = l.length ∨ (left l).length + 2 = l.length := by
  unfold left
  split <;> simp <;> omega
theorem due_len {s : CS} (h : due s = true) : 3 ≤ s.1.length := by
  unfold due at h
  simp at h
  exact h.1
theorem iter_stop {k : Nat} {s : CS} (h : due (iter k s) = false) : ∀ j, iter (k + j) s = iter k s
  | 0 => rfl
  | j + 1 => by
    show cst (iter (k + j) s) = _
    rw [iter_stop h j]
    unfold cst
    rw [if_neg (by rw [h]; simp)]
theorem red_is {j : Nat} {s : CS} (h : due (iter j s) = false) (hj : (iter j s).1.length + j ≤ s.1.length) : red s = iter j s := by
  unfold red
  obtain ⟨d, hd⟩ : ∃ d, s.1.length = j + d := ⟨s.1.length - j, by omega⟩
  rw [hd]
  exact iter_stop h d
theorem iter_due {j : Nat} {s : CS} (h : due (iter j s) = true) : iter (j + 1) s = (left (iter j s).1, (iter j s).2 ++ [found (iter j s).1]) := by
  show cst (iter j s) = _
  unfold cst
  rw [if_pos h]
theorem iter_len {j : Nat} {s : CS} (h : due (iter j s) = true) (hj : (iter j s).1.length + j ≤ s.1.length) : (iter (j + 1) s).1.length + (j + 1) ≤ s.1.length := by
  rw [iter_due h]
  have := left_length (due_len h)
  show (left (iter j s).1).length + (j + 1) ≤ _
  omega
/-- What holds at each step. -/
structure CInv (b : Nat) (s : CS) : Prop where
  finite : ∀ x ∈ s.1, fin .f32 x = true
  total : s.1.length + s.2.length ≤ b
theorem getD_mem {l : List Nat} {i : Nat} (h : i < l.length) : l.getD i 0 ∈ l := by
  rw [List.getD_eq_getElem?_getD, List.getElem?_eq_getElem h]
  exact List.getElem_mem h
theorem at3_fin {l : List Nat} (hf : ∀ x ∈ l, fin .f32 x = true) {i : Nat} (h : 1 ≤ i) (h2 : i ≤ l.length) : fin .f32 (at3 l i) = true := hf _ (getD_mem (by omega))
theorem cst_inv {b : Nat} {s : CS} (h : CInv b s) : CInv b (cst s) := by
  unfold cst
  split
  · rename_i hd
    have hl := due_len hd
    have h1 := left_length hl
    have h2 := h.total
    refine ⟨?_, ?_⟩
    · show ∀ x ∈ left s.1, _
      unfold left
      split
      · exact fun x hx => h.finite x (List.mem_of_mem_tail hx)
      · intro x hx
        rcases List.mem_append.1 hx with hx | hx
        · exact h.finite x (List.mem_of_mem_take hx)
        · rw [List.mem_singleton.1 hx]
          exact at3_fin h.finite (by omega) (by omega)
    · show (left s.1).length + (s.2 ++ [found s.1]).length ≤ b
      rw [List.length_append]
      simp only [List.length_singleton]
      omega
  · exact h
theorem iter_inv {b : Nat} {s : CS} (h : CInv b s) : ∀ k, CInv b (iter k s)
  | 0 => h
  | k + 1 => cst_inv (iter_inv h k)
theorem push_inv {b : Nat} {s : CS} (h : CInv b s) {x : Nat} (hx : fin .f32 x = true) : CInv (b + 1) (push s x) := by
  refine ⟨?_, ?_⟩
  · intro y hy
    rcases List.mem_append.1 hy with hy | hy
    · exact h.finite y hy
    · rw [List.mem_singleton.1 hy]; exact hx
  · have := h.total
    show (s.1 ++ [x]).length + s.2.length ≤ b + 1
    simp
    omega
theorem cycTo_succ (es : List Nat) (k : Nat) (hk : k < es.length) : cycTo es (k + 1) = red (push (cycTo es k) es[k]) := by
  unfold cycTo
  rw [List.take_succ_eq_append_getElem hk, List.foldl_append]
  rfl
theorem cycTo_inv (es : List Nat) (hf : finAll es = true) : ∀ k, k ≤ es.length → CInv k (cycTo es k)
  | 0, _ => ⟨(by intro x hx; cases hx), (by simp [cycTo])⟩
  | k + 1, h => by
    rw [cycTo_succ es k (by omega)]
    have hx : fin .f32 es[k] = true := by
      unfold finAll at hf
      exact List.all_eq_true.1 hf _ (List.getElem_mem _)
    exact iter_inv (push_inv (cycTo_inv es hf k (by omega)) hx) _
theorem endStep_fin {zs : List Nat} {x : Nat} (h : ∀ y ∈ zs, fin .f32 y = true) (hx : fin .f32 x = true) : ∀ y ∈ endStep zs x, fin .f32 y = true := by
  have ha : ∀ y ∈ zs ++ [x], fin .f32 y = true := fun y hy => by
    rcases List.mem_append.1 hy with hy | hy
    · exact h y hy
    · rw [List.mem_singleton.1 hy]; exact hx
  unfold endStep
  split
  · exact ha
  · split
    · exact h
    · split
      · exact ha
      · split
        · intro y hy
          rcases List.mem_or_eq_of_mem_set hy with hy | rfl
          · exact h y hy
          · exact hx
        · exact ha
theorem foldl_fin (xs : List Nat) (h : ∀ x ∈ xs, fin .f32 x = true) : ∀ zs : List Nat, (∀ y ∈ zs, fin .f32 y = true) → ∀ y ∈ xs.foldl endStep zs, fin .f32 y = true := by
  induction xs with
  | nil => exact fun zs hz => hz
  | cons x xs ih => exact fun zs hz => ih (fun y hy => h y (List.mem_cons_of_mem _ hy)) _ (endStep_fin hz (h x (List.mem_cons_self ..)))
theorem ends_fin {xs : List Nat} (h : finAll xs = true) : finAll (ends xs) = true := by
  unfold finAll at *
  exact List.all_eq_true.2 (foldl_fin xs (List.all_eq_true.1 h) [] (fun y hy => by cases hy))
theorem tails_succ (l : List Nat) (k : Nat) : tails l (k + 1) = tails l k ++ [pair (l.getD k 0) (l.getD (k + 1) 0) false] := by simp [tails, List.range_succ]
theorem tails_length (l : List Nat) (k : Nat) : (tails l k).length = k := by simp [tails]
theorem tails_zero (l : List Nat) : tails l 0 = [] := rfl

/-! ### A slice of numbers of a call's own that begins anywhere -/
def OX (B : Nat) (w : World) (g off cap : Nat) (xs : List Nat) : Prop :=
  ∃ cur, B ≤ g ∧ w.heap[g]? = some (.cells cur 26 (0, 0)) ∧ xs.length ≤ cap ∧ cap ≤ maxLen ∧ cur.size = off + cap ∧ ∀ j (h : j < xs.length), cur[off + j]? = some (.float .f32 xs[j])
def OO (B : Nat) (w : World) (v : Value) (xs : List Nat) : Prop := (v = .slice none 0 0 ∧ xs = []) ∨ ∃ g off cap, v = .slice (some ⟨g, off, none⟩) xs.length cap ∧ OX B w g off cap xs
theorem OO_of {B : Nat} {w : World} {v : Value} {xs : List Nat} (h : OF B w v xs) : OO B w v xs := by
  obtain ⟨-, h⟩ := h
  rcases h with ⟨h1, h2⟩ | ⟨g, cap, cur, h1, h2, h3, h4, h5, h6, h7⟩
  · exact .inl ⟨h1, List.eq_nil_of_length_eq_zero h2⟩
  · refine .inr ⟨g, 0, cap, h1, cur, h2, h3, h4, h5, by omega, fun j hj => ?_⟩
    have e : (cur.toList.take (xs.length * 1))[j]? = (xs.map (Value.float .f32))[j]? := by rw [h7]
    rw [List.getElem?_take, if_pos (by omega)] at e
    simpa [hj] using e
theorem OX_cell {B : Nat} {w : World} {g off cap : Nat} {xs : List Nat} (h : OX B w g off cap xs) {j : Nat} (hj : j < xs.length) : w.cell? ⟨g, off + j, none⟩ = some (.float .f32 (xs.getD j 0)) := by
  obtain ⟨cur, h1, h2, h3, h4, h5, h6⟩ := h
  rw [cell_of_row _ _ _ _ _ _ h2, h6 j hj]
  simp [hj]
theorem OX_below {B : Nat} {w w' : World} {g off cap : Nat} {xs : List Nat} (h : OX B w g off cap xs) (hb : Below w.heap.size w w') : OX B w' g off cap xs := by
  obtain ⟨cur, h1, h2, h3⟩ := h
  refine ⟨cur, h1, ?_, h3⟩
  have hlt : g < w.heap.size := (Array.getElem?_eq_some_iff.1 h2).1
  obtain ⟨-, -, -, -, hbl⟩ := hb
  rw [hbl g hlt]
  exact h2
theorem OO_below {B : Nat} {w w' : World} {v : Value} {xs : List Nat} (h : OO B w v xs) (hb : Below w.heap.size w w') : OO B w' v xs := by
  rcases h with h | ⟨g, off, cap, h1, h2⟩
  · exact .inl h
  · exact .inr ⟨g, off, cap, h1, OX_below h2 hb⟩
/-- What grows in a row of another kind leaves it as it was. -/
theorem OO_kept {B B' : Nat} {w w' : World} {u v : Value} {xs : List Nat} {n s : Nat} {cs : List Value} {e : TypeId} (h : OO B w v xs) (ho : w.ownsRow B' e s u n cs) (hne : e ≠ 26) (hg : w.grownBy w' u.ownBlock) : OO B w' v xs := by
  rcases h with h | ⟨g, off, cap, h1, cur, h2, h3, h4⟩
  · exact .inl h
  · refine .inr ⟨g, off, cap, h1, cur, h2, ?_, h4⟩
    rw [hg.block g (Array.getElem?_eq_some_iff.1 h3).1 ?_]
    · exact h3
    · intro e2
      rcases ho.2 with ⟨rfl, -⟩ | ⟨g', cap', cur', rfl, -, hg', -⟩
      · cases e2
      · simp only [Value.ownBlock, Option.some.injEq] at e2
        subst e2
        rw [hg'] at h3
        simp only [Option.some.injEq, Obj.cells.injEq] at h3
        exact hne h3.2.1
/-- And the other way round. -/
theorem row_kept {B B' : Nat} {w w' : World} {u v : Value} {xs : List Nat} {n s : Nat} {cs : List Value} {e : TypeId} (h : OO B w v xs) (ho : w.ownsRow B' e s u n cs) (hne : e ≠ 26) (hg : w.grownBy w' v.ownBlock) : w'.ownsRow B' e s u n cs := by
  refine ho.kept hg ?_
  rcases h with ⟨h, -⟩ | ⟨g, off, cap, h1, cur, h2, h3, h4⟩
  · subst h; cases u.ownBlock <;> simp [Value.ownBlock]
  · right
    intro e2
    rcases ho.2 with ⟨rfl, -⟩ | ⟨g', cap', cur', rfl, -, hg', -⟩
    · subst h1; cases e2
    · subst h1
      simp only [Value.ownBlock, Option.some.injEq] at e2
      subst e2
      rw [hg'] at h3
      simp only [Option.some.injEq, Obj.cells.injEq] at h3
      exact hne h3.2.1
theorem OO_grown {B S : Nat} {w w' : World} {v : Value} {xs : List Nat} (h : OO S w v xs) (hg : w.grownBy w' v.ownBlock) (hB : B ≤ w.heap.size) (hS : B ≤ S) : Below B w w' := by
  refine (Below.refl B w).grown hg hB fun k hk => ?_
  rcases h with ⟨h, -⟩ | ⟨g, off, cap, h1, cur, h2, h3⟩
  · subst h; cases hk
  · subst h1
    simp only [Value.ownBlock, Option.some.injEq] at hk
    omega
theorem OX_drop {B : Nat} {w : World} {g off cap : Nat} {xs : List Nat} (h : OX B w g off cap xs) (h1 : 1 ≤ xs.length) : OX B w g (off + 1) (cap - 1) xs.tail := by
  obtain ⟨cur, a1, a2, a3, a4, a5, a6⟩ := h
  refine ⟨cur, a1, a2, by simp; omega, by omega, by omega, fun j hj => ?_⟩
  simp only [List.length_tail] at hj
  have := a6 (1 + j) (by omega)
  rw [← Nat.add_assoc] at this
  rw [this]
  simp [Nat.add_comm]
theorem OX_take {B : Nat} {w : World} {g off cap : Nat} {xs : List Nat} (h : OX B w g off cap xs) (k : Nat) : OX B w g off cap (xs.take k) := by
  obtain ⟨cur, a1, a2, a3, a4, a5, a6⟩ := h
  refine ⟨cur, a1, a2, by simp; omega, a4, a5, fun j hj => ?_⟩
  simp only [List.length_take] at hj
  rw [a6 j (by omega)]
  simp
theorem OO_RF {B : Nat} {w : World} {v : Value} {xs : List Nat} (h : OO B w v xs) (hl : xs.length ≤ 281474976710656) : RF w v xs := by
  rcases h with ⟨rfl, rfl⟩ | ⟨g, off, cap, rfl, h⟩
  · exact ⟨none, 0, rfl, by simp, .inl rfl⟩
  · refine ⟨_, _, rfl, hl, .inr ⟨g, off, rfl, fun j u hu => ?_⟩⟩
    have hj : j < xs.length := by
      have := (List.getElem?_eq_some_iff.1 hu).1
      simpa using this
    rw [OX_cell h hj]
    simp [hj] at hu
    rw [← hu]
    simp [hj]
/-- 'append' of one number, wherever the slice begins. -/
theorem run_appO (ty : TypeId) (w : World) (B : Nat) (xs : List Nat) (r : Nat) (v : Value) (g : Nat) (hown : OO B w v xs) (hcell : w.cell? ⟨g, 0, none⟩ = some (.float .f32 r)) (hl : xs.length ≤ 1048576) (hB : B ≤ w.heap.size) :
    ∃ u w', (Builtin.append_ #[24, 24] ty #[v, .slice (some ⟨g, 0, none⟩) 1 1]).run Try.prog w = .ok u w' ∧ OO B w' u (xs ++ [r]) ∧ w.grownBy w' v.ownBlock ∧ ∀ k, u.ownBlock = some k → v.ownBlock = some k ∨ w.heap.size ≤ k := by
  have hinfo : (Try.prog.info? 26).map (fun i => (i.zero, i.size, i.bytes)) = some (some (.float .f32 0), 1, 4) := by kernel_rfl
  obtain ⟨i, hi, hzz⟩ := Option.map_eq_some_iff.1 hinfo
  simp only [Prod.mk.injEq] at hzz
  obtain ⟨hz, hsz, hby⟩ := hzz
  have hnews : ∀ j u, ([Value.float .f32 r] : List Value)[j]? = some u → w.cell? ((⟨g, 0, none⟩ : Addr).add j) = some u := by
    intro j u hj
    match j, hj with
    | 0, hj => simp at hj; subst hj; simpa [Addr.add] using hcell
  have h1c : ∀ u ∈ ([Value.float .f32 r] : List Value), u.oneCell' = true := by intro u hu; simp at hu; subst hu; rfl
  rcases id hown with ⟨rfl, rfl⟩ | ⟨b, off, cap, rfl, cur, a1, a2, a3, a4, a5, a6⟩
  · obtain ⟨v', w', hr, h2, h3, -⟩ := run_append_own (P := Try.prog) w w.heap.size 24 ty 26 i (.float .f32 0) 1 4 Try.underlying24 hi hz hsz hby rfl (by decide) (.slice none 0 0) 0 [] (World.ownsRow_nil _ _ _ _) ⟨g, 0, none⟩ 1 1 [.float .f32 r] rfl hnews h1c (by unfold maxLen; omega) (by omega) (Nat.le_refl _)
    refine ⟨v', w', hr, OO_of ?_, h3, fun k hk => .inr (h2.lt k hk).1⟩
    show w'.ownsRow _ _ _ _ _ _
    have h2' : w'.ownsRow B 26 1 v' (0 + 1) ([] ++ [.float .f32 r]) := by
      refine ⟨h2.1, ?_⟩
      rcases h2.2 with h | ⟨g', cap', cur', q1, q2, q3⟩
      · exact .inl h
      · exact .inr ⟨g', cap', cur', q1, by omega, q3⟩
    simpa using h2'
  · by_cases hroom : xs.length + 1 ≤ cap
    · have hc : ∀ k, off ≤ k → k < off + cap → (w.cell? ⟨b, k, none⟩).isSome = true := fun k h1 h2 => by
        rw [cell_of_row _ _ _ _ _ _ a2]
        rw [Array.getElem?_eq_getElem (by omega)]; rfl
      have hf : ∀ k, w.frozen? ⟨b, k, none⟩ = false := fun k => frozen_of_row w b k cur _ a2
      have hrun := run_append_room_cells (P := Try.prog) w 24 ty 26 i Try.underlying24 hi b off xs.length cap ⟨g, 0, none⟩ 1 1 [.float .f32 r] (by rw [hsz]; rfl) hnews h1c hroom
        (fun j hj => hc _ (by omega) (by rw [hsz]; simp at hj; omega)) (fun j hj => hf _)
      refine ⟨_, _, hrun, .inr ⟨b, off, cap, by simp, ?_⟩, ⟨rfl, rfl, rfl, by simp [World.setCells], fun k _ hk => heap_setCell_other w ⟨b, off + xs.length * i.size, none⟩ k _ (fun e => hk (by simp [Value.ownBlock, e]))⟩, fun k hk => .inl hk⟩
      refine ⟨cur.setIfInBounds (off + xs.length) (.float .f32 r), a1, ?_, by simp; omega, a4, by simpa using a5, fun j hj => ?_⟩
      · rw [hsz, Nat.mul_one]
        exact heap_setCell_same w b (off + xs.length) cur _ _ a2
      · simp only [List.length_append, List.length_singleton] at hj
        rw [Array.getElem?_setIfInBounds]
        by_cases e : xs.length = j
        · subst e
          rw [if_pos rfl, if_pos (by omega)]
          simp
        · rw [if_neg (by omega), a6 j (by omega)]
          simp [List.getElem_append, show j < xs.length by omega]
    · obtain ⟨v', w', hr, h2, h3⟩ := run_append_arg_grows (P := Try.prog) w 24 ty 26 i (.float .f32 0) 1 4 Try.underlying24 hi hz hsz hby rfl (by decide) ⟨b, off, none⟩ xs.length cap (xs.map (Value.float .f32)) (by simp) (fun j u hj => by
        rw [Addr.add_lit]
        have hjl : j < xs.length := by
          have := (List.getElem?_eq_some_iff.1 hj).1
          simpa using this
        rw [OX_cell ⟨cur, a1, a2, a3, a4, a5, a6⟩ hjl]
        simp [hjl] at hj
        rw [← hj]
        simp [hjl]) ⟨g, 0, none⟩ 1 1 [.float .f32 r] rfl hnews (by omega) (by unfold maxLen; omega) (by omega)
      refine ⟨v', w', hr, OO_of ?_, ⟨h3.os, h3.tape, h3.output, h3.size, fun k hk _ => h3.block k hk (by simp)⟩, fun k hk => .inr (h2.lt k hk).1⟩
      have h2' : w'.ownsRow B 26 1 v' (xs.length + 1) (xs.map (Value.float .f32) ++ [.float .f32 r]) := by
        refine ⟨h2.1, ?_⟩
        rcases h2.2 with h | ⟨g', cap', cur', q1, q2, q3⟩
        · exact .inl h
        · exact .inr ⟨g', cap', cur', q1, by omega, q3⟩
      show w'.ownsRow _ _ _ _ _ _
      simpa using h2'
theorem wpList_appO {ops : Array Oper} {rest : List Oper} {o : Oper} {a : Act} {Q : Exit → Act → World → Prop} {w : World} (B : Nat) (xs : List Nat) (r : Nat) {s x : Operand} {v : Value} {g : Nat} (hgd : o.guard = none)
    (ho : o.op = .call { callee := .builtin .append, args := #[s, x], argTypes := #[24, 24] }) (hs : a.eval s = v) (hx : a.eval x = .slice (some ⟨g, 0, none⟩) 1 1)
    (hown : OO B w v xs) (hcell : w.cell? ⟨g, 0, none⟩ = some (.float .f32 r)) (hl : xs.length ≤ 1048576) (hB : B ≤ w.heap.size)
    (h : ∀ u w', OO B w' u (xs ++ [r]) → w.grownBy w' v.ownBlock → (∀ k, u.ownBlock = some k → v.ownBlock = some k ∨ w.heap.size ≤ k) → wpList Try.prog ops Q rest (a.put o.dst u) w') : wpList Try.prog ops Q (o :: rest) a w := by
  refine wpList_plain hgd fun K hK => ?_
  obtain ⟨u, w', hr, h2, h3, h4⟩ := run_appO o.type w B xs r v g hown hcell hl hB
  unfold Oper.wp execOp
  simp only [ho, resolve, invoke, builtin, Sem.run_bind, Sem.run_pure, Result.andThen_ok, List.map_toArray, List.map_cons, List.map_nil, hs, hx, hr]
  exact hK _ _ (h u w' h2 h3 h4)
theorem step_appO {ops : Array Oper} {o : Oper} {a : Act} {K : Act → World → Prop} {Q : Exit → Act → World → Prop} {E : Prop} {w : World} (B : Nat) (xs : List Nat) (r : Nat) (s x : Operand) (v : Value) (g : Nat) (hgd : o.guard = none)
    (ho : o.op = .call { callee := .builtin .append, args := #[s, x], argTypes := #[24, 24] }) (hs : a.eval s = v) (hx : a.eval x = .slice (some ⟨g, 0, none⟩) 1 1)
    (hown : OO B w v xs) (hcell : w.cell? ⟨g, 0, none⟩ = some (.float .f32 r)) (hl : xs.length ≤ 1048576) (hB : B ≤ w.heap.size)
    (h : ∀ u w', OO B w' u (xs ++ [r]) → w.grownBy w' v.ownBlock → (∀ k, u.ownBlock = some k → v.ownBlock = some k ∨ w.heap.size ≤ k) → K (a.put o.dst u) w') : if Region.wanted o (yielded ops a.tmps) = true then Oper.wp Try.prog o a w K Q else E := by
  have hw : Region.wanted o (yielded ops a.tmps) = true := by simp [Region.wanted, hgd]
  rw [if_pos hw]
  obtain ⟨u, w', hr, h2, h3, h4⟩ := run_appO o.type w B xs r v g hown hcell hl hB
  unfold Oper.wp execOp
  simp only [ho, resolve, invoke, builtin, Sem.run_bind, Sem.run_pure, Result.andThen_ok, List.map_toArray, List.map_cons, List.map_nil, hs, hx, hr]
  exact h u w' h2 h3 h4

/-! ### append of a cycle -/
theorem cycCells_append (cs ds : List Cyc) : cycCells (cs ++ ds) = cycCells cs ++ cycCells ds := by
  induction cs with
  | nil => rfl
  | cons c cs ih => simp [cycCells, ih]
theorem run_appC (ty : TypeId) (w : World) (B : Nat) (cs : List Cyc) (c : Cyc) (v : Value) (g : Nat) (hown : OC B w v cs) (hcell : CycAt w g 0 c) (hl : cs.length ≤ 1048576) (hB : B ≤ w.heap.size) :
    ∃ u w', (Builtin.append_ #[39, 39] ty #[v, .slice (some ⟨g, 0, none⟩) 1 1]).run Try.prog w = .ok u w' ∧ OC B w' u (cs ++ [c]) ∧ w.grownBy w' v.ownBlock := by
  have hinfo : (Try.prog.info? 47).map (fun i => (i.zero, i.size, i.bytes)) = some (some (.agg #[.float .f32 0, .float .f32 0, .bool false]), 3, 12) := by kernel_rfl
  obtain ⟨i, hi, hzz⟩ := Option.map_eq_some_iff.1 hinfo
  simp only [Prod.mk.injEq] at hzz
  obtain ⟨hz, hsz, hby⟩ := hzz
  have hnews : ∀ j u, (cycCells [c])[j]? = some u → w.cell? ((⟨g, 0, none⟩ : Addr).add j) = some u := by
    intro j u hj
    obtain ⟨c0, c1, c2⟩ := hcell
    match j, hj with
    | 0, hj => simp [cycCells] at hj; subst hj; simpa [Addr.add] using c0
    | 1, hj => simp [cycCells] at hj; subst hj; simpa [Addr.add] using c1
    | 2, hj => simp [cycCells] at hj; subst hj; simpa [Addr.add] using c2
    | j + 3, hj => simp [cycCells] at hj
  have h1c : ∀ u ∈ cycCells [c], u.oneCell' = true := by intro u hu; simp [cycCells] at hu; rcases hu with rfl | rfl | rfl <;> rfl
  obtain ⟨v', w', hr, h2, h3, -⟩ := run_append_own (P := Try.prog) w B 39 ty 47 i (.agg #[.float .f32 0, .float .f32 0, .bool false]) 3 12 Try.underlying39 hi hz hsz hby rfl (by decide) v cs.length _ hown ⟨g, 0, none⟩ 1 1 (cycCells [c]) rfl hnews h1c (by unfold maxLen; omega) (by omega) hB
  refine ⟨v', w', hr, ?_, h3⟩
  show w'.ownsRow _ _ _ _ _ _
  rw [cycCells_append]
  simpa using h2
theorem wpList_appC {ops : Array Oper} {rest : List Oper} {o : Oper} {a : Act} {Q : Exit → Act → World → Prop} {w : World} (B : Nat) (cs : List Cyc) (c : Cyc) {s x : Operand} {v : Value} {g : Nat} (hgd : o.guard = none)
    (ho : o.op = .call { callee := .builtin .append, args := #[s, x], argTypes := #[39, 39] }) (hs : a.eval s = v) (hx : a.eval x = .slice (some ⟨g, 0, none⟩) 1 1)
    (hown : OC B w v cs) (hcell : CycAt w g 0 c) (hl : cs.length ≤ 1048576) (hB : B ≤ w.heap.size)
    (h : ∀ u w', OC B w' u (cs ++ [c]) → w.grownBy w' v.ownBlock → wpList Try.prog ops Q rest (a.put o.dst u) w') : wpList Try.prog ops Q (o :: rest) a w := by
  refine wpList_plain hgd fun K hK => ?_
  obtain ⟨u, w', hr, h2, h3⟩ := run_appC o.type w B cs c v g hown hcell hl hB
  unfold Oper.wp execOp
  simp only [ho, resolve, invoke, builtin, Sem.run_bind, Sem.run_pure, Result.andThen_ok, List.map_toArray, List.map_cons, List.map_nil, hs, hx, hr]
  exact hK _ _ (h u w' h2 h3)
theorem step_appC {ops : Array Oper} {o : Oper} {a : Act} {K : Act → World → Prop} {Q : Exit → Act → World → Prop} {E : Prop} {w : World} (B : Nat) (cs : List Cyc) (c : Cyc) (s x : Operand) (v : Value) (g : Nat) (hgd : o.guard = none)
    (ho : o.op = .call { callee := .builtin .append, args := #[s, x], argTypes := #[39, 39] }) (hs : a.eval s = v) (hx : a.eval x = .slice (some ⟨g, 0, none⟩) 1 1)
    (hown : OC B w v cs) (hcell : CycAt w g 0 c) (hl : cs.length ≤ 1048576) (hB : B ≤ w.heap.size)
    (h : ∀ u w', OC B w' u (cs ++ [c]) → w.grownBy w' v.ownBlock → K (a.put o.dst u) w') : if Region.wanted o (yielded ops a.tmps) = true then Oper.wp Try.prog o a w K Q else E := by
  have hw : Region.wanted o (yielded ops a.tmps) = true := by simp [Region.wanted, hgd]
  rw [if_pos hw]
  obtain ⟨u, w', hr, h2, h3⟩ := run_appC o.type w B cs c v g hown hcell hl hB
  unfold Oper.wp execOp
  simp only [ho, resolve, invoke, builtin, Sem.run_bind, Sem.run_pure, Result.andThen_ok, List.map_toArray, List.map_cons, List.map_nil, hs, hx, hr]
  exact h u w' h2 h3

/-! ### What the loops hold -/
structure CW (B : Nat) (w : World) (ue : Value) (es : List Nat) (wr : World) (l o : Value) (s : CS) : Prop where
  he : OF B wr ue es
  hd : ∀ k, ue.ownBlock = some k → l.ownBlock ≠ some k
  hl : OO B wr l s.1
  ho : OC B wr o s.2
  hb : Below B w wr
  hs : B ≤ wr.heap.size
theorem CW.below {B : Nat} {w wr wr' : World} {ue l o : Value} {es : List Nat} {s : CS} (h : CW B w ue es wr l o s) (hb : Below wr.heap.size wr wr') : CW B w ue es wr' l o s :=
  ⟨OF_below h.he hb, h.hd, OO_below h.hl hb, OC_below h.ho hb, h.hb.trans (hb.mono h.hs), Nat.le_trans h.hs hb.size⟩
theorem CW.pushed {B : Nat} {w wr wr' : World} {ue l l' o : Value} {es l1 : List Nat} {s : CS} (h : CW B w ue es wr l o s) (hl : OO B wr' l' l1) (hg : wr.grownBy wr' l.ownBlock) (ha : ∀ k, l'.ownBlock = some k → l.ownBlock = some k ∨ wr.heap.size ≤ k) : CW B w ue es wr' l' o (l1, s.2) := by
  have h1 : Below B wr wr' := OO_grown h.hl hg h.hs (Nat.le_refl _)
  refine ⟨kept_dis h.he hg fun k hk hk2 => h.hd k hk2 hk, fun k hk hk2 => ?_, hl, row_kept h.hl h.ho (by decide) hg, h.hb.trans h1, Nat.le_trans h.hs hg.size⟩
  rcases ha k hk2 with h2 | h2
  · exact h.hd k hk h2
  · have := (h.he.lt k hk).2
    omega
theorem CW.outed {B : Nat} {w wr wr' : World} {ue l o o' : Value} {es : List Nat} {s : CS} {cs : List Cyc} (h : CW B w ue es wr l o s) (ho : OC B wr' o' cs) (hg : wr.grownBy wr' o.ownBlock) : CW B w ue es wr' l o' (s.1, cs) := by
  have h1 : Below B wr wr' := grown_below h.ho hg h.hs (Nat.le_refl _)
  refine ⟨kept_dis h.he hg fun k hk hk2 => ?_, h.hd, OO_kept h.hl h.ho (by decide) hg, ho, h.hb.trans h1, Nat.le_trans h.hs hg.size⟩
  rcases h.ho.2 with ⟨e, -⟩ | ⟨g, cap, cur, e, -, hg1, -⟩
  · subst e; cases hk
  · rcases h.he.2 with ⟨e2, -⟩ | ⟨g2, cap2, cur2, e2, -, hg2, -⟩
    · subst e2; cases hk2
    · subst e e2
      simp only [Value.ownBlock, Option.some.injEq] at hk hk2
      subst hk hk2
      rw [hg1] at hg2
      simp only [Option.some.injEq, Obj.cells.injEq] at hg2
      exact absurd hg2.2.1 (by decide)
theorem CW.relist {B : Nat} {w wr : World} {ue l l' o : Value} {es l1 : List Nat} {s : CS} (h : CW B w ue es wr l o s) (hl : OO B wr l' l1) (hd : ∀ k, ue.ownBlock = some k → l'.ownBlock ≠ some k) : CW B w ue es wr l' o (l1, s.2) :=
  ⟨h.he, hd, hl, h.ho, h.hb, h.hs⟩
theorem CW.apart {B : Nat} {w wr : World} {ue o : Value} {es : List Nat} {s : CS} {g off n cap : Nat} (h : CW B w ue es wr (.slice (some ⟨g, off, none⟩) n cap) o s) : some g ≠ o.ownBlock := fun e => by
  rcases h.ho.2 with ⟨e1, -⟩ | ⟨g1, cap1, cur1, e1, -, hg1, -⟩
  · subst e1; cases e
  · rcases h.hl with ⟨e2, -⟩ | ⟨g2, off2, cap2, e2, cur2, -, hg2, -⟩
    · cases e2
    · subst e1
      simp only [Value.slice.injEq, Option.some.injEq, Addr.mk.injEq] at e2
      simp only [Value.ownBlock, Option.some.injEq] at e
      obtain ⟨⟨e3, -⟩, -⟩ := e2
      subst e e3
      rw [hg1] at hg2
      simp only [Option.some.injEq, Obj.cells.injEq] at hg2
      exact absurd hg2.2.1 (by decide)
theorem cell_alloc_keep' {w : World} {a : Addr} {v : Value} (h : w.cell? a = some v) (o : Obj) : (w.alloc o).cell? a = some v := (Below.cell (show Below w.heap.size w (w.alloc o) from below_alloc (Nat.le_refl _) (Below.refl _ _) o) (p := a) (block_lt_of_cell h)).trans h
theorem cell_below_keep' {w w' : World} {a : Addr} {v : Value} (h : w.cell? a = some v) (hb : Below w.heap.size w w') : w'.cell? a = some v := (hb.cell (p := a) (block_lt_of_cell h)).trans h
theorem cell_far_keep {w w' : World} {a : Addr} {v : Value} {row : Option Nat} (h : w.cell? a = some v) (hg : w.grownBy w' row) (hne : some a.block ≠ row) : w'.cell? a = some v := hg.cell h hne
theorem OX_RF {B : Nat} {w : World} {g off cap n c : Nat} {xs : List Nat} (h : OX B w g off cap xs) (hn : n = xs.length) (hl : xs.length ≤ 281474976710656) : RF w (.slice (some ⟨g, off, none⟩) n c) xs := by
  subst hn
  refine ⟨_, _, rfl, hl, .inr ⟨g, off, rfl, fun j u hu => ?_⟩⟩
  have hj : j < xs.length := by
    have := (List.getElem?_eq_some_iff.1 hu).1
    simpa using this
  rw [OX_cell h hj]
  simp [hj] at hu
  rw [← hu]
  simp [hj]
theorem CW.ox {B : Nat} {w wr : World} {ue o : Value} {es : List Nat} {s : CS} {g off n cap : Nat} (h : CW B w ue es wr (.slice (some ⟨g, off, none⟩) n cap) o s) : n = s.1.length ∧ OX B wr g off cap s.1 := by
  rcases h.hl with ⟨h, -⟩ | ⟨g2, off2, cap2, e2, h2⟩
  · cases h
  · simp only [Value.slice.injEq, Option.some.injEq, Addr.mk.injEq] at e2
    obtain ⟨⟨rfl, rfl, -⟩, rfl, rfl⟩ := e2
    exact ⟨rfl, h2⟩
/-- 'append' of a slice of numbers to an empty slice of the call's own. -/
theorem wpList_copyN {ops : Array Oper} {rest : List Oper} {o : Oper} {a : Act} {Q : Exit → Act → World → Prop} {w : World} (B : Nat) (xs : List Nat) {s x : Operand} {v u : Value} (hgd : o.guard = none)
    (ho : o.op = .call { callee := .builtin .append, args := #[s, x], argTypes := #[24, 24] }) (hs : a.eval s = v) (hx : a.eval x = u)
    (hown : OF B w v []) (hv : v ≠ .slice none 0 0) (hu : RF w u xs) (hne : xs ≠ []) (hl : xs.length ≤ 1048577) (hB : B ≤ w.heap.size)
    (h : ∀ u' w', OF B w' u' xs → u' ≠ .slice none 0 0 → Below B w w' → wpList Try.prog ops Q rest (a.put o.dst u') w') : wpList Try.prog ops Q (o :: rest) a w := by
  have hinfo : (Try.prog.info? 26).map (fun i => (i.zero, i.size, i.bytes)) = some (some (.float .f32 0), 1, 4) := by kernel_rfl
  obtain ⟨i, hi, hzz⟩ := Option.map_eq_some_iff.1 hinfo
  simp only [Prod.mk.injEq] at hzz
  obtain ⟨hz, hsz, hby⟩ := hzz
  obtain ⟨p, cap, rfl, hm, hc⟩ := hu
  obtain ⟨b, off, rfl, hcell⟩ := hc.resolve_left (fun e => hne (List.eq_nil_of_length_eq_zero e))
  refine wpList_append_own w hgd s x 24 ho B 26 i (.float .f32 0) 1 4 Try.underlying24 hi hz hsz hby rfl (by decide) v 0 _ hs hown ⟨b, off, none⟩ xs.length cap (xs.map (Value.float .f32)) hx (by simp) ?_ ?_ (by unfold maxLen; omega) (by omega) hB ?_
  · intro j y hj
    have e : (⟨b, off, none⟩ : Addr).add j = ⟨b, off + j, none⟩ := by
      unfold Addr.add
      by_cases h : j = 0
      · subst h; simp
      · simp [h]
    rw [e]
    exact hcell j y hj
  · intro y hy
    obtain ⟨b, _, rfl⟩ := List.mem_map.1 hy
    rfl
  · intro v' w' h1 h2 h3
    refine h v' w' ?_ (fun h0 => hv (h3.1 h0).1) (grown_below hown h2 hB (Nat.le_refl _))
    have e : 0 + xs.length = xs.length := by omega
    rw [e] at h1
    exact h1
theorem OO_base {B B' : Nat} {w : World} {v : Value} {xs : List Nat} (h : OO B' w v xs) (hB : B ≤ B') : OO B w v xs := by
  rcases h with h | ⟨g, off, cap, h1, cur, h2, h3⟩
  · exact .inl h
  · exact .inr ⟨g, off, cap, h1, cur, Nat.le_trans hB h2, h3⟩
end Go.Proofs.Ytmpmnhnobgidoaa
