/- Regions that draw their order, whose operations only read, where an operation's value is known by a relation alone (a NaN's bits, a callee's answer). -/
import Derived.Deep.QuietTactic
import Derived.Test.YtmpmnhnobgidoaaF
namespace Go.Fl
set_option linter.unusedSimpArgs false
set_option linter.unusedVariables false
open Go Go.RowKit
section
variable {P : Program} {ops : Array Oper} {md : Region.Mode} {C : World → Prop} {R : FuncId → Array Value → Value → Prop}

/-- The run of an operation, begun in a world of the class, ends in one. -/
def okUpon (P : Program) (C : World → Prop) (R : FuncId → Array Value → Value → Prop) : Result Next → Prop
  | .ok (.value _) w' => C w'
  | .ok .skip w' => C w'
  | .ok (.enter f args) w' => C w' ∧ Calls P f args w' (fun e w'' => ∃ u, e = .returned u ∧ R f args u ∧ C w'')
  | _ => False
/-- What it may give. -/
def gives (R : FuncId → Array Value → Value → Prop) : Result Next → Value → Prop
  | .ok (.value u) _, v => v = u
  | .ok .skip _, v => v = undef
  | .ok (.enter f args) _, v => R f args v
  | _, _ => False
def okS (P : Program) (C : World → Prop) (R : FuncId → Array Value → Value → Prop) (s : Sem Next) : Prop := ∀ w, C w → okUpon P C R (s.run P w)
def reach (P : Program) (C : World → Prop) (R : FuncId → Array Value → Value → Prop) (s : Sem Next) (v : Value) : Prop := ∃ w, C w ∧ gives R (s.run P w) v

def rq (P : Program) (C : World → Prop) (R : FuncId → Array Value → Value → Prop) (o : Oper) (a : Act) (next : Act → Prop) : Prop :=
  okS P C R (execOp a.eval o) ∧ ∀ v, reach P C R (execOp a.eval o) v → next (a.put o.dst v)

def wpRq (P : Program) (ops : Array Oper) (C : World → Prop) (R : FuncId → Array Value → Value → Prop) (Q : Act → Prop) : List Oper → Act → Prop
  | [], a => Q a
  | o :: rest, a => if Region.wanted o (yielded ops a.tmps) then rq P C R o a (wpRq P ops C R Q rest) else wpRq P ops C R Q rest (a.put o.dst undef)

def rOp (P : Program) (ops : Array Oper) (C : World → Prop) (R : FuncId → Array Value → Value → Prop) (i : Nat) (K : Act → Prop) (a : Act) : Prop :=
  match ops[i]? with
  | none => K a
  | some o => if Region.wanted o (yielded ops a.tmps) then rq P C R o a K else K (a.put o.dst undef)

theorem rq_mono {o : Oper} {a : Act} {K K' : Act → Prop} (h : ∀ a, K a → K' a) (hh : rq P C R o a K) : rq P C R o a K' :=
  ⟨hh.1, fun v hv => h _ (hh.2 v hv)⟩

theorem rOp_mono {i : Nat} {a : Act} {K K' : Act → Prop} (h : ∀ a, K a → K' a) (hh : rOp P ops C R i K a) : rOp P ops C R i K' a := by
  unfold rOp at *
  split
  · exact h _ (by simpa [*] using hh)
  · rename_i o ho
    simp only [ho] at hh
    split
    · rename_i hw; simp only [hw, if_true] at hh; exact rq_mono h hh
    · rename_i hw; simp only [hw] at hh; exact h _ hh

def wpAnyR (P : Program) (md : Region.Mode) (ops : Array Oper) (C : World → Prop) (R : FuncId → Array Value → Value → Prop) (Q : Act → Prop) : Nat → Array Bool → Act → Prop
  | 0, listed, a => Region.ready md ops listed = [] ∧ Q a
  | fuel + 1, listed, a =>
    (Region.ready md ops listed = [] → Q a) ∧
    ∀ i ∈ Region.ready md ops listed, rOp P ops C R i (wpAnyR P md ops C R Q fuel (listed.setIfInBounds i true)) a

theorem wp_of_rq {o : Oper} {a : Act} {K : Act → Prop} {K' : Act → World → Prop} {Q' : Exit → Act → World → Prop} {w : World} (hw : C w) (h : ∀ a w', C w' → K a → K' a w') (hh : rq P C R o a K) : o.wp P a w K' Q' := by
  obtain ⟨h1, h2⟩ := hh
  have h3 := h1 w hw
  have h4 : ∀ v, gives R ((execOp a.eval o).run P w) v → K (a.put o.dst v) := fun v hv => h2 v ⟨w, hw, hv⟩
  unfold Oper.wp
  generalize (execOp a.eval o).run P w = r at *
  cases r with
  | ok n w' =>
    cases n <;> simp only [okUpon] at h3 <;> simp only [Oper.upon]
    case value u => exact h _ _ h3 (h4 u rfl)
    case skip => exact h _ _ h3 (h4 undef rfl)
    case enter f args =>
      exact h3.2.mono fun e w'' ⟨u, he, hr, hw''⟩ => by subst he; exact h _ _ hw'' (h4 u hr)
  | halt x w' => simp only [okUpon] at h3

theorem wpOp_of_rOp {i : Nat} {a : Act} {K : Act → Prop} {K' : Act → World → Prop} {Q' : Exit → Act → World → Prop} {w : World} (hC : C w) (h : ∀ a w', C w' → K a → K' a w') (hh : rOp P ops C R i K a) : wpOp P ops Q' i K' a w := by
  unfold rOp at hh
  unfold wpOp
  split
  · rename_i ho; simp only [ho] at hh; exact h _ _ hC hh
  · rename_i o ho
    simp only [ho] at hh
    split
    · rename_i hw; simp only [hw, if_true] at hh; exact .inl (wp_of_rq hC h hh)
    · rename_i hw; simp only [hw] at hh; exact h _ _ hC hh

theorem wpAny_of_rq {Q : Act → Prop} {Q' : Exit → Act → World → Prop} (hQ : ∀ a w, C w → Q a → Q' .normal a w) : ∀ (fuel : Nat) (listed : Array Bool) (a : Act) (w : World), C w →
    wpAnyR P md ops C R Q fuel listed a → wpAny P md ops Q' fuel listed a w
  | 0, _, _, _, hw, h => ⟨h.1, hQ _ _ hw h.2⟩
  | fuel + 1, _, _, _, hw, h => ⟨fun h0 => hQ _ _ hw (h.1 h0), fun i hi => wpOp_of_rOp hw (fun a' w' hw' => wpAny_of_rq hQ fuel _ a' w' hw') (h.2 i hi)⟩

def YieldsR (P : Program) (ops : Array Oper) (C : World → Prop) (R : FuncId → Array Value → Value → Prop) (o : Oper) (V : Value → Prop) (a : Act) : Prop :=
  (Region.wanted o (yielded ops a.tmps) = true ∧ okS P C R (execOp a.eval o) ∧ ∀ v, reach P C R (execOp a.eval o) v ↔ V v) ∨
  (Region.wanted o (yielded ops a.tmps) = false ∧ ∀ v, V v ↔ v = undef)

theorem reach_some {s : Sem Next} {w : World} (hw : C w) (h : okS P C R s) : ∃ v, reach P C R s v := by
  have h1 := h w hw
  suffices ∃ v, gives R (s.run P w) v from let ⟨v, hv⟩ := this; ⟨v, w, hw, hv⟩
  generalize s.run P w = r at *
  cases r with
  | ok n w' =>
    cases n <;> simp only [okUpon] at h1
    case value u => exact ⟨u, rfl⟩
    case skip => exact ⟨undef, rfl⟩
    case enter f args =>
      obtain ⟨e, w'', fr, ⟨u, -, hr, -⟩, -⟩ := h1.2 []
      exact ⟨u, hr⟩
  | halt x w' => simp only [okUpon] at h1

theorem YieldsR.exi {o : Oper} {V : Value → Prop} {a : Act} {w : World} (hw : C w) (hy : YieldsR P ops C R o V a) : ∃ v, V v := by
  rcases hy with ⟨_, h, hv⟩ | ⟨_, hv⟩
  · obtain ⟨v, h⟩ := reach_some hw h
    exact ⟨v, (hv v).1 h⟩
  · exact ⟨undef, (hv _).2 rfl⟩

theorem rOp_of_yields {i : Nat} {o : Oper} {V : Value → Prop} {a : Act} (hi : ops[i]? = some o) (hy : YieldsR P ops C R o V a) {K : Act → Prop} (h : ∀ v, V v → K (a.put o.dst v)) : rOp P ops C R i K a := by
  unfold rOp
  simp only [hi]
  rcases hy with ⟨hw, hk, hv⟩ | ⟨hw, hv⟩
  · simp only [hw, if_true]; exact ⟨hk, fun v hr => h v ((hv v).1 hr)⟩
  · simp only [hw, Bool.false_eq_true, if_false]; exact h _ ((hv _).2 rfl)

theorem YieldsR.of_same {o : Oper} {V : Value → Prop} {a a' : Act} (hy : YieldsR P ops C R o V a) (he : execOp a'.eval o = execOp a.eval o)
    (hw : Region.wanted o (yielded ops a'.tmps) = Region.wanted o (yielded ops a.tmps)) : YieldsR P ops C R o V a' := by
  unfold YieldsR at *
  rw [he, hw]
  exact hy

theorem yieldsR_of_rOp {i : Nat} {o : Oper} {a : Act} {K : Act → Prop} (hi : ops[i]? = some o) (h : rOp P ops C R i K a) : ∃ V, YieldsR P ops C R o V a ∧ ∀ v, V v → K (a.put o.dst v) := by
  unfold rOp at h
  simp only [hi] at h
  by_cases hw : Region.wanted o (yielded ops a.tmps) = true
  · simp only [hw, if_true] at h
    exact ⟨reach P C R (execOp a.eval o), .inl ⟨hw, h.1, fun _ => Iff.rfl⟩, h.2⟩
  · simp only [hw] at h
    exact ⟨(· = undef), .inr ⟨by simpa using hw, fun _ => Iff.rfl⟩, fun v hv => by subst hv; exact h⟩

theorem rOp_put {j : Nat} {oi oj : Oper} {V : Value → Prop} (hj : ops[j]? = some oj) (hap : oi.apart ops oj = true)
    (hsi : ∀ cs b, oi.op ≠ .select cs b) (hsj : ∀ cs b, oj.op ≠ .select cs b) {K : Act → Prop} {a : Act} (hne : ∃ v, V v)
    (hy : YieldsR P ops C R oi V a) (h : ∀ v, V v → rOp P ops C R j K (a.put oi.dst v)) :
    rOp P ops C R j (fun a' => YieldsR P ops C R oi V a' ∧ ∀ v, V v → K (a'.put oi.dst v)) a := by
  obtain ⟨h1, h2, h3⟩ := Oper.apart_spec hap
  have keep : ∀ (a : Act), YieldsR P ops C R oi V a → ∀ u, YieldsR P ops C R oi V (a.put oj.dst u) := fun a hy u =>
    hy.of_same (execOp_put oi hsi a oj.dst u h3) (wanted_put oi a oj.dst u h3)
  unfold rOp at *
  simp only [hj] at *
  obtain ⟨v0, hv0⟩ := hne
  have hwv : ∀ v, Region.wanted oj (yielded ops (a.put oi.dst v).tmps) = Region.wanted oj (yielded ops a.tmps) := fun v => wanted_put oj a oi.dst v h1
  split
  · rename_i hw
    have h' : ∀ v, V v → rq P C R oj (a.put oi.dst v) K := fun v hv => by
      have := h v hv
      rw [hwv v] at this
      simpa only [hw, if_true] using this
    refine ⟨?_, fun u hu => ⟨keep a hy u, fun v hv => ?_⟩⟩
    · have := (h' v0 hv0).1
      rwa [execOp_put oj hsj a oi.dst v0 h1] at this
    · have := (h' v hv).2 u (by rw [execOp_put oj hsj a oi.dst v h1]; exact hu)
      rwa [← Act.put_comm a v u h2]
  · rename_i hw
    refine ⟨keep a hy _, fun v hv => ?_⟩
    have := h v hv
    rw [hwv v] at this
    simp only [hw] at this
    rwa [← Act.put_comm a v undef h2]

theorem wpAnyR_first {Q : Act → Prop} {i : Nat} {oi : Oper} {V : Value → Prop} {w0 : World} (hw0 : C w0) (hi : ops[i]? = some oi) (hsel : ∀ (j : Nat) (o : Oper) cs b, ops[j]? = some o → o.op ≠ .select cs b) :
    ∀ (fuel : Nat) (listed : Array Bool) (a : Act),
      (∀ j oj, ops[j]? = some oj → j ≠ i → listed.getD j true = false → (∀ e ∈ oj.after, Region.binds md e = true → e.on ≠ i) → oi.apart ops oj = true) →
      i ∈ Region.ready md ops listed → YieldsR P ops C R oi V a →
      (∀ v, V v → wpAnyR P md ops C R Q fuel (listed.setIfInBounds i true) (a.put oi.dst v)) → wpAnyR P md ops C R Q (fuel + 1) listed a := by
  intro fuel
  induction fuel with
  | zero =>
    intro listed a _ hr hy H
    obtain ⟨v0, hv0⟩ := hy.exi hw0
    refine ⟨fun h => (by rw [h] at hr; cases hr), fun j hj => ?_⟩
    by_cases hji : j = i
    · subst hji; exact rOp_of_yields hi hy H
    · have := ready_mono hj hji
      rw [(H v0 hv0).1] at this
      cases this
  | succ fuel ih =>
    intro listed a hfree hr hy H
    refine ⟨fun h => (by rw [h] at hr; cases hr), fun j hj => ?_⟩
    by_cases hji : j = i
    · subst hji; exact rOp_of_yields hi hy H
    · have h1 : ∀ v, V v → rOp P ops C R j (wpAnyR P md ops C R Q fuel ((listed.setIfInBounds i true).setIfInBounds j true)) (a.put oi.dst v) := fun v hv => (H v hv).2 j (ready_mono hj hji)
      obtain ⟨hjun, oj, hoj, hall⟩ := mem_ready.1 hj
      have hnot : ∀ e ∈ oj.after, Region.binds md e = true → e.on ≠ i := fun e he hb heq => by
        have h1 := hall e he hb
        have h0 := (mem_ready.1 hr).1
        rw [heq] at h1
        rcases Nat.lt_or_ge i listed.size with h' | h'
        · simp [h'] at h0 h1; rw [h0] at h1; cases h1
        · simp [Array.getElem?_eq_none h'] at h1
      have h2 := rOp_put hoj (hfree j oj hoj hji hjun hnot) (fun cs b => hsel i oi cs b hi) (fun cs b => hsel j oj cs b hoj) (hy.exi hw0) hy h1
      have hfree' : ∀ k ok, ops[k]? = some ok → k ≠ i → (listed.setIfInBounds j true).getD k true = false →
          (∀ e ∈ ok.after, Region.binds md e = true → e.on ≠ i) → oi.apart ops ok = true := fun k ok hk hki hun hno => by
        refine hfree k ok hk hki ?_ hno
        by_cases hjk : j = k
        · subst hjk; exact hjun
        · rw [getD_set_ne true hjk] at hun; exact hun
      refine rOp_mono (fun a' h3 => ih (listed.setIfInBounds j true) a' hfree' (ready_mono hr (Ne.symm hji)) h3.1 ?_) h2
      intro v hv
      rw [Array.setIfInBounds_comm _ _ hji]
      exact h3.2 v hv

theorem wpAnyR_lex {Q : Act → Prop} {w0 : World} (hw0 : C w0) (hs : Region.noSelect ops = true) : ∀ (l : List Oper) (k : Nat) (listed : Array Bool) (a : Act), (∀ j, l[j]? = ops[k + j]?) →
    Region.lexFrom md ops l.length k listed = true → wpRq P ops C R Q l a → wpAnyR P md ops C R Q l.length listed a
  | [], _, _, _, _, hB, h => ⟨by simpa [Region.lexFrom] using hB, h⟩
  | o :: l, k, listed, a, hl, hB, h => by
    have h0 : ops[k]? = some o := by simpa using (hl 0).symm
    simp only [List.length_cons, Region.lexFrom, Bool.and_eq_true] at hB
    obtain ⟨⟨hr, hf⟩, hB'⟩ := hB
    have hst : rOp P ops C R k (wpRq P ops C R Q l) a := by unfold rOp; simp only [h0]; exact h
    obtain ⟨V, hy, hK⟩ := yieldsR_of_rOp h0 hst
    exact wpAnyR_first hw0 h0 (Region.noSelect_spec hs) l.length listed a (Region.free_spec h0 hf) (by simpa using hr) hy
      fun v hv => wpAnyR_lex hw0 hs l (k + 1) _ _ (fun j => by have := hl (j + 1); simpa [Nat.add_assoc, Nat.add_comm 1 j] using this) hB' (hK v hv)

theorem wp_region_rq {id : Nat} {Q : Exit → Act → World → Prop} {a : Act} {w : World} (hm : P.follows .mixedOrders = true) (hB : Region.lexB .any ops = true) (hC : C { w with drawn := w.drawn + 1 })
    (h : wpRq P ops C R (fun a' => ∀ w', C w' → Q .normal a' w') ops.toList a) : (Code.region id ops true).wp P Q a w := by
  simp only [Region.lexB, Bool.and_eq_true] at hB
  refine wp_region_any hm (wpAny_of_rq (R := R) (Q := fun a' => ∀ w', C w' → Q .normal a' w') (fun _ w' hw' h => h w' hw') _ _ _ _ hC ?_)
  have := wpAnyR_lex (C := C) (R := R) (md := .any) hC hB.1 ops.toList 0 (Array.replicate ops.size false) a (by simp) (by simpa using hB.2) h
  simpa using this

/-- A region whose operations are written out; 'R': what its callees answer. -/
theorem wp_region_rq_lit (R : FuncId → Array Value → Value → Prop) {id : Nat} {Q : Exit → Act → World → Prop} {a : Act} {w : World} {l : List Oper} (hm : P.follows .mixedOrders = true) (hB : Region.lexB .any l.toArray = true)
    (h : wpRq P l.toArray (fun w' => ∃ n, w' = w.drewN n) R (fun a' => ∀ n, Q .normal a' (w.drewN n)) l a) : (Code.region id l.toArray true).wp P Q a w :=
  wp_region_rq (C := fun w' => ∃ n, w' = w.drewN n) (R := R) hm hB ⟨1, rfl⟩ (by
    have e : (fun a' => ∀ w', (∃ n, w' = w.drewN n) → Q .normal a' w') = fun a' => ∀ n, Q .normal a' (w.drewN n) := by
      funext a'
      exact propext ⟨fun h n => h _ ⟨n, rfl⟩, fun h w' ⟨n, e⟩ => by rw [e]; exact h n⟩
    rw [e]
    simpa using h)

/-! ### One operation at a time -/
def detUpon (w : World) (v : Value) : Result Next → Prop
  | .ok (.value u) w' => w' = w ∧ u = v
  | .ok .skip w' => w' = w ∧ v = undef
  | _ => False
def detAt (P : Program) (o : Oper) (a : Act) (w : World) (v : Value) : Prop := detUpon w v ((execOp a.eval o).run P w)
attribute [go_sem] detAt detUpon

theorem wpRq_nil {Q : Act → Prop} {a : Act} (h : Q a) : wpRq P ops C R Q [] a := h

/-- An operation that gives one value. -/
theorem wpRq_det {w : World} {Q : Act → Prop} {a : Act} {o : Oper} {rest : List Oper}
    (h : ∀ K : Act → Prop, (∀ a, wpRq P ops (fun w' => ∃ n, w' = w.drewN n) R Q rest a → K a) →
      if Region.wanted o (yielded ops a.tmps) then ∃ v, (∀ n, detAt P o a (w.drewN n) v) ∧ K (a.put o.dst v) else K (a.put o.dst undef)) :
    wpRq P ops (fun w' => ∃ n, w' = w.drewN n) R Q (o :: rest) a := by
  have h1 := h _ (fun _ h => h)
  unfold wpRq
  split
  · rename_i hw
    rw [if_pos hw] at h1
    obtain ⟨v, hv, hK⟩ := h1
    refine ⟨?_, ?_⟩
    · rintro w' ⟨n, rfl⟩
      have h2 := hv n
      unfold detAt at h2
      generalize (execOp a.eval o).run P (w.drewN n) = r at *
      cases r with
      | ok x w'' => cases x <;> simp only [detUpon] at h2 <;> first | exact ⟨n, h2.1⟩ | exact h2.elim
      | halt x w'' => simp only [detUpon] at h2
    · rintro u ⟨w', ⟨n, rfl⟩, hg⟩
      have h2 := hv n
      unfold detAt at h2
      generalize (execOp a.eval o).run P (w.drewN n) = r at *
      cases r with
      | ok x w'' =>
        cases x <;> simp only [detUpon] at h2 <;> simp only [gives] at hg
        case value => rw [hg, h2.2]; exact hK
        case skip => rw [hg, ← h2.2]; exact hK
        all_goals exact hg.elim
      | halt x w'' => simp only [detUpon] at h2
  · rename_i hw; rw [if_neg hw] at h1; exact h1

theorem wpRq_det' {w : World} {Q : Act → Prop} {a : Act} {o : Oper} {rest : List Oper} (hw : Region.wanted o (yielded ops a.tmps) = true)
    (h : ∀ K : Act → Prop, (∀ a, wpRq P ops (fun w' => ∃ n, w' = w.drewN n) R Q rest a → K a) → ∃ v, (∀ n, detAt P o a (w.drewN n) v) ∧ K (a.put o.dst v)) :
    wpRq P ops (fun w' => ∃ n, w' = w.drewN n) R Q (o :: rest) a :=
  wpRq_det fun K hK => by rw [if_pos hw]; exact h K hK

theorem want_none {o : Oper} {y : Nat → Option Bool} (h : o.guard = none) : Region.wanted o y = true := by unfold Region.wanted; rw [h]

/-- An operation that the guard lets by. -/
theorem wpRx_skip {Q : Act → Prop} {a : Act} {o : Oper} {rest : List Oper} (hw : Region.wanted o (yielded ops a.tmps) = false) (h : wpRq P ops C R Q rest (a.put o.dst undef)) : wpRq P ops C R Q (o :: rest) a := by
  unfold wpRq
  rw [if_neg (by rw [hw]; decide)]
  exact h
theorem wpRq_skip {w : World} {Q : Act → Prop} {a : Act} {o : Oper} {rest : List Oper} (hw : Region.wanted o (yielded ops a.tmps) = false)
    (h : wpRq P ops (fun w' => ∃ n, w' = w.drewN n) R Q rest (a.put o.dst undef)) : wpRq P ops (fun w' => ∃ n, w' = w.drewN n) R Q (o :: rest) a := wpRx_skip hw h

/-- An operation whose value is known by a relation. -/
theorem wpRq_rel {w : World} {Q : Act → Prop} {a : Act} {o : Oper} {rest : List Oper} (V : Value → Prop) (hw : Region.wanted o (yielded ops a.tmps) = true)
    (h1 : ∀ n, ∃ v m, (execOp a.eval o).run P (w.drewN n) = .ok (.value v) (w.drewN m) ∧ V v)
    (h : ∀ v, V v → wpRq P ops (fun w' => ∃ n, w' = w.drewN n) R Q rest (a.put o.dst v)) : wpRq P ops (fun w' => ∃ n, w' = w.drewN n) R Q (o :: rest) a := by
  unfold wpRq
  rw [if_pos hw]
  refine ⟨?_, ?_⟩
  · rintro w' ⟨n, rfl⟩
    obtain ⟨v, m, hr, -⟩ := h1 n
    rw [hr]
    exact ⟨m, rfl⟩
  · rintro u ⟨w', ⟨n, rfl⟩, hg⟩
    obtain ⟨v, m, hr, hv⟩ := h1 n
    rw [hr] at hg
    simp only [gives] at hg
    subst hg
    exact h _ hv

/-- A call. -/
theorem wpRq_call {w : World} {Q : Act → Prop} {a : Act} {o : Oper} {rest : List Oper} (f : FuncId) (args : Array Value) (hw : Region.wanted o (yielded ops a.tmps) = true)
    (h1 : ∀ n, (execOp a.eval o).run P (w.drewN n) = .ok (.enter f args) (w.drewN n))
    (hc : ∀ n, Calls P f args (w.drewN n) (fun e w'' => ∃ u, e = .returned u ∧ R f args u ∧ ∃ n, w'' = w.drewN n))
    (h : ∀ v, R f args v → wpRq P ops (fun w' => ∃ n, w' = w.drewN n) R Q rest (a.put o.dst v)) : wpRq P ops (fun w' => ∃ n, w' = w.drewN n) R Q (o :: rest) a := by
  unfold wpRq
  rw [if_pos hw]
  refine ⟨?_, ?_⟩
  · rintro w' ⟨n, rfl⟩
    rw [h1 n]
    exact ⟨⟨n, rfl⟩, hc n⟩
  · rintro u ⟨w', ⟨n, rfl⟩, hg⟩
    rw [h1 n] at hg
    exact h _ hg

theorem wpRq_fa {w : World} {Q : Act → Prop} {a : Act} {o : Oper} {rest : List Oper} {op : BinOp} {t tk : TypeId} {x y : Operand} {k : FloatKind} {X Y sx sy : Nat} (ho : o.op = .binOp op t x y tk) (hop : arith op = true) (hw : Region.wanted o (yielded ops a.tmps) = true)
    (hx : a.eval x = .float k X) (hy : a.eval y = .float k Y) (hX : Hid (cn k X = sx)) (hY : Hid (cn k Y = sy))
    (h : ∀ r, Hid (cn k r = fa op k sx sy) → wpRq P ops (fun w' => ∃ n, w' = w.drewN n) R Q rest (a.put o.dst (.float k r))) : wpRq P ops (fun w' => ∃ n, w' = w.drewN n) R Q (o :: rest) a := by
  refine wpRq_rel (fun v => ∃ r, v = .float k r ∧ cn k r = fa op k X Y) hw (fun n => ?_) (fun v hv => ?_)
  · obtain ⟨r, m, hr, hc⟩ := run_fa (P := P) (w.drewN n) op t k X Y hop
    refine ⟨.float k r, n + m, ?_, r, rfl, hc⟩
    unfold execOp
    have hg : (eqGuard op t x y (.float k X) (.float k Y)).run P (w.drewN n) = .ok () (w.drewN n) := by
      cases op <;> simp [arith] at hop <;> simp [eqGuard]
    simp only [ho, hx, hy, Sem.run_bind, Sem.run_pure, hg, hr, Result.andThen_ok, World.drewN_drewN]
  · obtain ⟨r, rfl, hc⟩ := hv
    exact h r (by show _ = _; rw [hc, ← hX.out, ← hY.out, fa_cn_left, fa_cn_right])

theorem wpRq_widen {w : World} {Q : Act → Prop} {a : Act} {o : Oper} {rest : List Oper} {src dst : TypeId} {x : Operand} {X : Nat} (ho : o.op = .convert src dst x) (hw : Region.wanted o (yielded ops a.tmps) = true)
    (hx : a.eval x = .float .f32 X) (hs : (P.underlying src).isSome = true) (hd : P.underlying dst = some (.float .f64)) {sx : Nat} (hX : Hid (cn .f32 X = sx))
    (h : ∀ r, Hid (cn .f64 r = widen sx) → wpRq P ops (fun w' => ∃ n, w' = w.drewN n) R Q rest (a.put o.dst (.float .f64 r))) : wpRq P ops (fun w' => ∃ n, w' = w.drewN n) R Q (o :: rest) a := by
  refine wpRq_rel (fun v => ∃ r, v = .float .f64 r ∧ cn .f64 r = widen X) hw (fun n => ?_) (fun v hv => ?_)
  · obtain ⟨r, m, hr, hc⟩ := run_widen (P := P) (w.drewN n) src dst X hs hd
    refine ⟨.float .f64 r, n + m, ?_, r, rfl, hc⟩
    unfold execOp
    simp only [ho, hx, Sem.run_bind, Sem.run_pure, hr, Result.andThen_ok, World.drewN_drewN]
  · obtain ⟨r, rfl, hc⟩ := hv
    exact h r (by show _ = _; rw [hc, ← hX.out]; exact widen_congr (cn_cn _ _).symm)

theorem run_call_named {o : Oper} {a : Act} {f : FuncId} {xs : Array Operand} {ats : Array TypeId} (ho : o.op = .call { callee := .value (.func f), args := xs, argTypes := ats })
    (hent : ∀ args W, (callFunc f args).run P W = .ok (.enter f args) W) (w : World) : (execOp a.eval o).run P w = .ok (.enter f (xs.map a.eval)) w := by
  obtain ⟨dst, op, ty, pos, after, guard⟩ := o
  simp only at ho
  subst ho
  rw [execOp_call_go]
  simpa using hent _ w

/-- A call of a named function of one, two or three arguments. -/
theorem wpRq_call1 {w : World} {Q : Act → Prop} {a : Act} {o : Oper} {rest : List Oper} {f : FuncId} {x : Operand} {ats : Array TypeId} {X : Value}
    (ho : o.op = .call { callee := .value (.func f), args := #[x], argTypes := ats }) (hw : Region.wanted o (yielded ops a.tmps) = true) (hx : a.eval x = X)
    (hent : ∀ args W, (callFunc f args).run P W = .ok (.enter f args) W)
    (hc : ∀ n, Calls P f #[X] (w.drewN n) (fun e w'' => ∃ u, e = .returned u ∧ R f #[X] u ∧ ∃ m, w'' = (w.drewN n).drewN m))
    (h : ∀ v, R f #[X] v → wpRq P ops (fun w' => ∃ n, w' = w.drewN n) R Q rest (a.put o.dst v)) : wpRq P ops (fun w' => ∃ n, w' = w.drewN n) R Q (o :: rest) a := by
  subst hx
  refine wpRq_call f #[a.eval x] hw (fun n => by simpa using run_call_named (a := a) ho hent (w.drewN n)) (fun n => (hc n).mono ?_) h
  rintro e w' ⟨u, he, hr, m, rfl⟩
  exact ⟨u, he, hr, n + m, by rw [World.drewN_drewN]⟩
theorem wpRq_call2 {w : World} {Q : Act → Prop} {a : Act} {o : Oper} {rest : List Oper} {f : FuncId} {x y : Operand} {ats : Array TypeId} {X Y : Value}
    (ho : o.op = .call { callee := .value (.func f), args := #[x, y], argTypes := ats }) (hw : Region.wanted o (yielded ops a.tmps) = true) (hx : a.eval x = X) (hy : a.eval y = Y)
    (hent : ∀ args W, (callFunc f args).run P W = .ok (.enter f args) W)
    (hc : ∀ n, Calls P f #[X, Y] (w.drewN n) (fun e w'' => ∃ u, e = .returned u ∧ R f #[X, Y] u ∧ ∃ m, w'' = (w.drewN n).drewN m))
    (h : ∀ v, R f #[X, Y] v → wpRq P ops (fun w' => ∃ n, w' = w.drewN n) R Q rest (a.put o.dst v)) : wpRq P ops (fun w' => ∃ n, w' = w.drewN n) R Q (o :: rest) a := by
  subst hx hy
  refine wpRq_call f #[a.eval x, a.eval y] hw (fun n => by simpa using run_call_named (a := a) ho hent (w.drewN n)) (fun n => (hc n).mono ?_) h
  rintro e w' ⟨u, he, hr, m, rfl⟩
  exact ⟨u, he, hr, n + m, by rw [World.drewN_drewN]⟩
theorem wpRq_call3 {w : World} {Q : Act → Prop} {a : Act} {o : Oper} {rest : List Oper} {f : FuncId} {x y z : Operand} {ats : Array TypeId} {X Y Z : Value}
    (ho : o.op = .call { callee := .value (.func f), args := #[x, y, z], argTypes := ats }) (hw : Region.wanted o (yielded ops a.tmps) = true) (hx : a.eval x = X) (hy : a.eval y = Y) (hz : a.eval z = Z)
    (hent : ∀ args W, (callFunc f args).run P W = .ok (.enter f args) W)
    (hc : ∀ n, Calls P f #[X, Y, Z] (w.drewN n) (fun e w'' => ∃ u, e = .returned u ∧ R f #[X, Y, Z] u ∧ ∃ m, w'' = (w.drewN n).drewN m))
    (h : ∀ v, R f #[X, Y, Z] v → wpRq P ops (fun w' => ∃ n, w' = w.drewN n) R Q rest (a.put o.dst v)) : wpRq P ops (fun w' => ∃ n, w' = w.drewN n) R Q (o :: rest) a := by
  subst hx hy hz
  refine wpRq_call f #[a.eval x, a.eval y, a.eval z] hw (fun n => by simpa using run_call_named (a := a) ho hent (w.drewN n)) (fun n => (hc n).mono ?_) h
  rintro e w' ⟨u, he, hr, m, rfl⟩
  exact ⟨u, he, hr, n + m, by rw [World.drewN_drewN]⟩

/-! ### The same where a callee makes memory: worlds that came later -/
/-- A world that came later: what was there is as it was. -/
def Later (w : World) : Type := { w' : World // Below w.heap.size w w' }
def Later.to {w : World} (x : Later w) : World := x.1
theorem Later.below {w : World} (x : Later w) : Below w.heap.size w x.to := x.2
theorem Later.cell {w : World} (x : Later w) {a : Addr} {v : Value} (h : w.cell? a = some v) : x.to.cell? a = some v := (x.below.cell (block_lt_of_cell h)).trans h
def Later.mk {w w' : World} (h : Below w.heap.size w w') : Later w := ⟨w', h⟩
instance (w : World) : Nonempty (Later w) := ⟨Later.mk (Below.refl _ _)⟩
theorem Later.step {w w' : World} (x : Later w) (h : Below x.to.heap.size x.to w') : Below w.heap.size w w' := x.below.trans (h.mono x.below.size)
abbrev inLater (w : World) : World → Prop := fun w' => ∃ x : Later w, w' = x.to
theorem inLater_of {w w' : World} (h : Below w.heap.size w w') : inLater w w' := ⟨Later.mk h, rfl⟩

theorem wp_region_rl_lit (R : FuncId → Array Value → Value → Prop) {id : Nat} {Q : Exit → Act → World → Prop} {a : Act} {w : World} {l : List Oper} (hm : P.follows .mixedOrders = true) (hB : Region.lexB .any l.toArray = true)
    (h : wpRq P l.toArray (inLater w) R (fun a' => ∀ w', Below w.heap.size w w' → Q .normal a' w') l a) : (Code.region id l.toArray true).wp P Q a w :=
  wp_region_rq (C := inLater w) (R := R) hm hB (inLater_of ⟨rfl, rfl, rfl, Nat.le_refl _, fun _ _ => rfl⟩) (by
    have e : (fun a' => ∀ w', inLater w w' → Q .normal a' w') = fun a' => ∀ w', Below w.heap.size w w' → Q .normal a' w' := by
      funext a'
      exact propext ⟨fun h w' hb => h _ (inLater_of hb), fun h w' ⟨x, e⟩ => by rw [e]; exact h _ x.below⟩
    rw [e]
    simpa using h)

theorem wpRl_det {w : World} {Q : Act → Prop} {a : Act} {o : Oper} {rest : List Oper}
    (h : ∀ K : Act → Prop, (∀ a, wpRq P ops (inLater w) R Q rest a → K a) →
      if Region.wanted o (yielded ops a.tmps) then ∃ v, (∀ x : Later w, detAt P o a x.to v) ∧ K (a.put o.dst v) else K (a.put o.dst undef)) :
    wpRq P ops (inLater w) R Q (o :: rest) a := by
  have h1 := h _ (fun _ h => h)
  unfold wpRq
  split
  · rename_i hw
    rw [if_pos hw] at h1
    obtain ⟨v, hv, hK⟩ := h1
    refine ⟨?_, ?_⟩
    · rintro w' ⟨n, rfl⟩
      have h2 := hv n
      unfold detAt at h2
      generalize (execOp a.eval o).run P n.to = r at *
      cases r with
      | ok x w'' => cases x <;> simp only [detUpon] at h2 <;> first | exact ⟨n, h2.1⟩ | exact h2.elim
      | halt x w'' => simp only [detUpon] at h2
    · rintro u ⟨w', ⟨n, rfl⟩, hg⟩
      have h2 := hv n
      unfold detAt at h2
      generalize (execOp a.eval o).run P n.to = r at *
      cases r with
      | ok x w'' =>
        cases x <;> simp only [detUpon] at h2 <;> simp only [gives] at hg
        case value => rw [hg, h2.2]; exact hK
        case skip => rw [hg, ← h2.2]; exact hK
        all_goals exact hg.elim
      | halt x w'' => simp only [detUpon] at h2
  · rename_i hw; rw [if_neg hw] at h1; exact h1

theorem wpRl_det' {w : World} {Q : Act → Prop} {a : Act} {o : Oper} {rest : List Oper} (hw : Region.wanted o (yielded ops a.tmps) = true)
    (h : ∀ K : Act → Prop, (∀ a, wpRq P ops (inLater w) R Q rest a → K a) → ∃ v, (∀ x : Later w, detAt P o a x.to v) ∧ K (a.put o.dst v)) :
    wpRq P ops (inLater w) R Q (o :: rest) a :=
  wpRl_det fun K hK => by rw [if_pos hw]; exact h K hK

theorem wpRl_skip {w : World} {Q : Act → Prop} {a : Act} {o : Oper} {rest : List Oper} (hw : Region.wanted o (yielded ops a.tmps) = false)
    (h : wpRq P ops (inLater w) R Q rest (a.put o.dst undef)) : wpRq P ops (inLater w) R Q (o :: rest) a := wpRx_skip hw h

theorem wpRl_rel {w : World} {Q : Act → Prop} {a : Act} {o : Oper} {rest : List Oper} (V : Value → Prop) (hw : Region.wanted o (yielded ops a.tmps) = true)
    (h1 : ∀ x : Later w, ∃ v m, (execOp a.eval o).run P x.to = .ok (.value v) (x.to.drewN m) ∧ V v)
    (h : ∀ v, V v → wpRq P ops (inLater w) R Q rest (a.put o.dst v)) : wpRq P ops (inLater w) R Q (o :: rest) a := by
  unfold wpRq
  rw [if_pos hw]
  refine ⟨?_, ?_⟩
  · rintro w' ⟨n, rfl⟩
    obtain ⟨v, m, hr, -⟩ := h1 n
    rw [hr]
    exact inLater_of (below_drewN n.below m)
  · rintro u ⟨w', ⟨n, rfl⟩, hg⟩
    obtain ⟨v, m, hr, hv⟩ := h1 n
    rw [hr] at hg
    simp only [gives] at hg
    subst hg
    exact h _ hv

theorem wpRl_call {w : World} {Q : Act → Prop} {a : Act} {o : Oper} {rest : List Oper} (f : FuncId) (args : Array Value) (hw : Region.wanted o (yielded ops a.tmps) = true)
    (h1 : ∀ x : Later w, (execOp a.eval o).run P x.to = .ok (.enter f args) x.to)
    (hc : ∀ x : Later w, Calls P f args x.to (fun e w'' => ∃ u, e = .returned u ∧ R f args u ∧ Below x.to.heap.size x.to w''))
    (h : ∀ v, R f args v → wpRq P ops (inLater w) R Q rest (a.put o.dst v)) : wpRq P ops (inLater w) R Q (o :: rest) a := by
  unfold wpRq
  rw [if_pos hw]
  refine ⟨?_, ?_⟩
  · rintro w' ⟨n, rfl⟩
    rw [h1 n]
    refine ⟨⟨n, rfl⟩, (hc n).mono ?_⟩
    rintro e w'' ⟨u, he, hr, hb⟩
    exact ⟨u, he, hr, inLater_of (n.step hb)⟩
  · rintro u ⟨w', ⟨n, rfl⟩, hg⟩
    rw [h1 n] at hg
    exact h _ hg

theorem wpRl_fa {w : World} {Q : Act → Prop} {a : Act} {o : Oper} {rest : List Oper} {op : BinOp} {t tk : TypeId} {x y : Operand} {k : FloatKind} {X Y sx sy : Nat} (ho : o.op = .binOp op t x y tk) (hop : arith op = true) (hw : Region.wanted o (yielded ops a.tmps) = true)
    (hx : a.eval x = .float k X) (hy : a.eval y = .float k Y) (hX : Hid (cn k X = sx)) (hY : Hid (cn k Y = sy))
    (h : ∀ r, Hid (cn k r = fa op k sx sy) → wpRq P ops (inLater w) R Q rest (a.put o.dst (.float k r))) : wpRq P ops (inLater w) R Q (o :: rest) a := by
  refine wpRl_rel (fun v => ∃ r, v = .float k r ∧ cn k r = fa op k X Y) hw (fun n => ?_) (fun v hv => ?_)
  · obtain ⟨r, m, hr, hc⟩ := run_fa (P := P) n.to op t k X Y hop
    refine ⟨.float k r, m, ?_, r, rfl, hc⟩
    unfold execOp
    have hg : (eqGuard op t x y (.float k X) (.float k Y)).run P n.to = .ok () n.to := by
      cases op <;> simp [arith] at hop <;> simp [eqGuard]
    simp only [ho, hx, hy, Sem.run_bind, Sem.run_pure, hg, hr, Result.andThen_ok]
  · obtain ⟨r, rfl, hc⟩ := hv
    exact h r (by show _ = _; rw [hc, ← hX.out, ← hY.out, fa_cn_left, fa_cn_right])

theorem wpRl_widen {w : World} {Q : Act → Prop} {a : Act} {o : Oper} {rest : List Oper} {src dst : TypeId} {x : Operand} {X : Nat} (ho : o.op = .convert src dst x) (hw : Region.wanted o (yielded ops a.tmps) = true)
    (hx : a.eval x = .float .f32 X) (hs : (P.underlying src).isSome = true) (hd : P.underlying dst = some (.float .f64)) {sx : Nat} (hX : Hid (cn .f32 X = sx))
    (h : ∀ r, Hid (cn .f64 r = widen sx) → wpRq P ops (inLater w) R Q rest (a.put o.dst (.float .f64 r))) : wpRq P ops (inLater w) R Q (o :: rest) a := by
  refine wpRl_rel (fun v => ∃ r, v = .float .f64 r ∧ cn .f64 r = widen X) hw (fun n => ?_) (fun v hv => ?_)
  · obtain ⟨r, m, hr, hc⟩ := run_widen (P := P) n.to src dst X hs hd
    refine ⟨.float .f64 r, m, ?_, r, rfl, hc⟩
    unfold execOp
    simp only [ho, hx, Sem.run_bind, Sem.run_pure, hr, Result.andThen_ok]
  · obtain ⟨r, rfl, hc⟩ := hv
    exact h r (by show _ = _; rw [hc, ← hX.out]; exact widen_congr (cn_cn _ _).symm)

theorem wpRl_call1 {w : World} {Q : Act → Prop} {a : Act} {o : Oper} {rest : List Oper} {f : FuncId} {x : Operand} {ats : Array TypeId} {X : Value}
    (ho : o.op = .call { callee := .value (.func f), args := #[x], argTypes := ats }) (hw : Region.wanted o (yielded ops a.tmps) = true) (hx : a.eval x = X)
    (hent : ∀ args W, (callFunc f args).run P W = .ok (.enter f args) W)
    (hc : ∀ x : Later w, Calls P f #[X] x.to (fun e w'' => ∃ u, e = .returned u ∧ R f #[X] u ∧ Below x.to.heap.size x.to w''))
    (h : ∀ v, R f #[X] v → wpRq P ops (inLater w) R Q rest (a.put o.dst v)) : wpRq P ops (inLater w) R Q (o :: rest) a := by
  subst hx
  exact wpRl_call f #[a.eval x] hw (fun n => by simpa using run_call_named (a := a) ho hent n.to) hc h
theorem wpRl_call2 {w : World} {Q : Act → Prop} {a : Act} {o : Oper} {rest : List Oper} {f : FuncId} {x y : Operand} {ats : Array TypeId} {X Y : Value}
    (ho : o.op = .call { callee := .value (.func f), args := #[x, y], argTypes := ats }) (hw : Region.wanted o (yielded ops a.tmps) = true) (hx : a.eval x = X) (hy : a.eval y = Y)
    (hent : ∀ args W, (callFunc f args).run P W = .ok (.enter f args) W)
    (hc : ∀ x : Later w, Calls P f #[X, Y] x.to (fun e w'' => ∃ u, e = .returned u ∧ R f #[X, Y] u ∧ Below x.to.heap.size x.to w''))
    (h : ∀ v, R f #[X, Y] v → wpRq P ops (inLater w) R Q rest (a.put o.dst v)) : wpRq P ops (inLater w) R Q (o :: rest) a := by
  subst hx hy
  exact wpRl_call f #[a.eval x, a.eval y] hw (fun n => by simpa using run_call_named (a := a) ho hent n.to) hc h
end
attribute [irreducible] wpRq
end Go.Fl
