/- Words: a chain of tests in one region, once a test has failed: what is left only hands 'false' on. -/
import Derived.Test.YtpkkgfjjnggijaaGreatDoorHFA
import Derived.Deep.QuietTactic
import Derived.BigQuiet
namespace Go.Proofs.YtpkkgfjjnggijaaGreatDoor
set_option linter.unusedSimpArgs false
set_option linter.unusedVariables false
open Go.RowKit Go.Fl Go.Lib

/-- The slots known to hold 'false' behind an operation, from those ahead of it; none: it is no link of a chain that has failed. -/
def deadAt (ops : Array Oper) (S : List Nat) (o : Oper) : Option (List Nat) :=
  match o.dst with
  | none => none
  | some d =>
    match o.guard with
    | some (j, true) => match (ops[j]?).bind (·.dst) with
      | some s => if S.contains s && !S.contains d then some S else none
      | none => none
    | some (_, false) => none
    | none => match o.op with
      | .pick (.tmp x) _ (.const (.bool false)) => if S.contains x then some (d :: S) else none
      | .move (.tmp x) => if S.contains x then some (d :: S) else none
      | .assign (.tmp x) => if S.contains x then some (d :: S) else none
      | _ => none
theorem deadAt_spec {ops : Array Oper} {S S' : List Nat} {o : Oper} (h : deadAt ops S o = some S') : ∃ d, o.dst = some d ∧
    ((∃ j s, o.guard = some (j, true) ∧ (ops[j]?).bind (·.dst) = some s ∧ s ∈ S ∧ d ∉ S ∧ S' = S) ∨
     (o.guard = none ∧ S' = d :: S ∧ ∃ x, x ∈ S ∧ ((∃ y, o.op = .pick (.tmp x) y (.const (.bool false))) ∨ o.op = .move (.tmp x) ∨ o.op = .assign (.tmp x)))) := by
  unfold deadAt at h
  cases hd : o.dst with
  | none => rw [hd] at h; cases h
  | some d =>
    rw [hd] at h
    refine ⟨d, rfl, ?_⟩
    simp only at h
    cases hg : o.guard with
    | some jb =>
      obtain ⟨j, b⟩ := jb
      rw [hg] at h
      cases b with
      | false => cases h
      | true =>
        left
        simp only at h
        cases hs : (ops[j]?).bind (·.dst) with
        | none => rw [hs] at h; cases h
        | some s =>
          rw [hs] at h
          simp only at h
          split at h
          · rename_i hc
            simp only [Bool.and_eq_true, Bool.not_eq_true', List.contains_eq_mem, decide_eq_true_eq, decide_eq_false_iff_not] at hc
            cases h
            exact ⟨j, s, rfl, hs, hc.1, hc.2, rfl⟩
          · cases h
    | none =>
      right
      rw [hg] at h
      simp only at h
      split at h
      · rename_i x y ho
        split at h
        · rename_i hc
          cases h
          exact ⟨rfl, rfl, x, by simpa using hc, .inl ⟨y, ho⟩⟩
        · cases h
      · rename_i x ho
        split at h
        · rename_i hc
          cases h
          exact ⟨rfl, rfl, x, by simpa using hc, .inr (.inl ho)⟩
        · cases h
      · rename_i x ho
        split at h
        · rename_i hc
          cases h
          exact ⟨rfl, rfl, x, by simpa using hc, .inr (.inr ho)⟩
        · cases h
      · cases h
/-- The whole rest of a region: each operation a link, 'n' slots, the result in slot 'r'. -/
def deadB (ops : Array Oper) (n r : Nat) : List Oper → List Nat → Bool
  | [], S => S.contains r
  | o :: l, S => match deadAt ops S o with
    | some S' => (match o.dst with | some d => decide (d < n) | none => false) && deadB ops n r l S'
    | none => false
theorem run_pick_false {ρ : Operand → Value} {P : Program} {o : Oper} {x y z : Operand} (h : o.op = .pick x y z) (hx : ρ x = .bool false) (w : World) : (execOp ρ o).run P w = .ok (.value (ρ z)) w := by
  unfold execOp; rw [h]; simp only [hx]; rfl
theorem wpQuiet_dead {P : Program} {ops : Array Oper} {C : World → Prop} {Q : Act → Prop} (n r : Nat) : ∀ (l : List Oper) (S : List Nat) (a : Act), deadB ops n r l S = true → n ≤ a.tmps.size →
    (∀ s, s ∈ S → a.tmps[s]? = some (.bool false)) → (∀ a' : Act, a'.tmps[r]? = some (.bool false) → a'.defers = a.defers → Q a') → wpQuiet P ops C Q l a
  | [], S, a, h, _, hS, hQ => wpQuiet_nil (hQ a (hS r (by simpa [deadB] using h)) rfl)
  | o :: l, S, a, h, hn, hS, hQ => by
    unfold deadB at h
    cases hd : deadAt ops S o with
    | none => rw [hd] at h; cases h
    | some S' =>
      rw [hd] at h
      obtain ⟨d, ho, hsp⟩ := deadAt_spec hd
      simp only [ho, Bool.and_eq_true, decide_eq_true_eq] at h
      obtain ⟨hdn, hl⟩ := h
      have hput : ∀ v, (a.put o.dst v) = { a with tmps := a.tmps.setIfInBounds d v } := fun v => by rw [ho]; rfl
      rcases hsp with ⟨j, s, hg, hb, hs, hdS, rfl⟩ | ⟨hg, rfl, x, hx, hop⟩
      · have hw : Region.wanted o (yielded ops a.tmps) = false := by
          unfold Region.wanted yielded
          rw [hg]
          simp only [hb, Option.bind_some, hS s hs]
          rfl
        refine BigFrame.wpQuiet_skip hw ?_
        rw [hput]
        refine wpQuiet_dead n r l _ _ hl (by simpa using hn) ?_ (fun a' h1 h2 => hQ a' h1 h2)
        intro t ht
        have hne : d ≠ t := fun hh => hdS (hh ▸ ht)
        show (a.tmps.setIfInBounds d undef)[t]? = _
        rw [Array.getElem?_setIfInBounds_ne hne]
        exact hS t ht
      · have hw : Region.wanted o (yielded ops a.tmps) = true := by
          unfold Region.wanted
          rw [hg]
        have hval : a.eval (.tmp x) = .bool false := by
          show a.tmps.getD x undef = _
          rw [Array.getD_eq_getD_getElem?, hS x hx]; rfl
        refine BigFrame.wpQuiet_want hw fun K hK => ?_
        refine ⟨.bool false, fun w _ => ?_, hK _ ?_⟩
        · unfold Oper.quietAt
          rcases hop with ⟨y, hop⟩ | hop | hop
          · rw [run_pick_false hop hval]; exact ⟨rfl, rfl⟩
          · rw [BigFrame.run_move _ hop, hval]; exact ⟨rfl, rfl⟩
          · rw [BigFrame.run_assign _ hop, hval]; exact ⟨rfl, rfl⟩
        · rw [hput]
          refine wpQuiet_dead n r l _ _ hl (by simpa using hn) ?_ (fun a' h1 h2 => hQ a' h1 h2)
          intro t ht
          show (a.tmps.setIfInBounds d (.bool false))[t]? = _
          by_cases hdt : d = t
          · subst hdt
            rw [Array.getElem?_setIfInBounds_self_of_lt (Nat.lt_of_lt_of_le hdn hn)]
          · rw [Array.getElem?_setIfInBounds_ne hdt]
            rcases List.mem_cons.1 ht with rfl | ht
            · exact absurd rfl hdt
            · exact hS t ht
end Go.Proofs.YtpkkgfjjnggijaaGreatDoor
