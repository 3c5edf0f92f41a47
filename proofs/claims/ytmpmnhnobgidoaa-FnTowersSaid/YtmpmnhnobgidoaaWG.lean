/- Walks: CrossingsOf. -/
import Derived.Test.YtmpmnhnobgidoaaWE
import Derived.Test.YtmpmnhnobgidoaaWF
import Derived.Test.YtmpmnhnobgidoaaO
namespace Go.Proofs.Ytmpmnhnobgidoaa
set_option linter.unusedSimpArgs false
set_option linter.unusedVariables false
open Go.RowKit Go.Fl
def inM (p a b : Int) : Bool := decide (a ≤ p) && decide (p ≤ b)
def allM (ms : List Int) : Bool := ms.all fun p => inM p 1 12
theorem i_within (p a b : Int) (w : World) : Calls Try.prog 58 #[.int .i64 p, .int .i64 a, .int .i64 b] w fun e w' => e = .returned (.bool (inM p a b)) ∧ ∃ n, w' = w.drewN n := by
  by_cases h : a ≤ p
  all_goals
    go_enter Try.func58, Try.ntmps58
    go_wp2
    go_ret
    exact ⟨by unfold inM; simp [h] <;> omega, 0, rfl⟩
def crossGood (m d s : Nat) (ms : List Int) (xs : List Nat) : Bool := towerOk m d s && decide (ms.length ≤ 32) && decide (xs.length ≤ 64) && allM ms && finAll xs && fin .f32 (rate m s)
def crossRes (m d s : Nat) (ms : List Int) (xs : List Nat) : List (List Int) := if crossGood m d s ms xs then crossTo (rate m s) ms xs ms.length else []
/-- What CrossingsOf answers. -/
def CrossOut (m d s : Nat) (ms : List Int) (xs : List Nat) (w : World) (e : Ending) (w' : World) : Prop := ∃ u us, e = .returned (.tuple #[u, .bool (crossGood m d s ms xs)]) ∧ OII w.heap.size w'.heap.size w' u us (crossRes m d s ms xs) ∧ Below w.heap.size w w'
theorem OII_nil (S T : Nat) (w : World) : OII S T w (.slice none 0 0) [] [] :=
  ⟨rfl, World.ownsRow_nil _ _ _ _, fun i h => absurd h (Nat.not_lt_zero _), fun i j h => absurd h (Nat.not_lt_zero _), fun i h => absurd h (Nat.not_lt_zero _), (fun k h => by cases h), fun i h => absurd h (Nat.not_lt_zero _)⟩
theorem CrossOut.no {m d s : Nat} {ms : List Int} {xs : List Nat} {w w' : World} (h : crossGood m d s ms xs = false) (hb : Below w.heap.size w w') : CrossOut m d s ms xs w (.returned (.tuple #[.slice none 0 0, .bool false])) w' := by
  refine ⟨_, [], by rw [h], ?_, hb⟩
  unfold crossRes; rw [h]; exact OII_nil _ _ _
theorem CrossOut.ok {m d s : Nat} {ms : List Int} {xs : List Nat} {w w' : World} {u : Value} {us : List Value} (h : crossGood m d s ms xs = true) (ho : OII w.heap.size w'.heap.size w' u us (crossTo (rate m s) ms xs ms.length)) (hb : Below w.heap.size w w') : CrossOut m d s ms xs w (.returned (.tuple #[u, .bool true])) w' := by
  refine ⟨u, us, by rw [h], ?_, hb⟩
  unfold crossRes; rw [if_pos h]; exact ho
theorem OII.up {S T T' : Nat} {w : World} {u : Value} {us : List Value} {xss : List (List Int)} (h : OII S T w u us xss) (hT : T ≤ T') : OII S T' w u us xss :=
  ⟨h.len, h.row, h.inner, h.apart, h.out, fun k hk => Nat.lt_of_lt_of_le (h.top.1 k hk) hT, fun i h1 k hk => Nat.lt_of_lt_of_le (h.top.2 i h1 k hk) hT⟩
theorem dis_types {B B' : Nat} {w : World} {u v : Value} {n n' : Nat} {cs cs' : List Value} {e e' : TypeId} {s s' : Nat} (h1 : w.ownsRow B e s u n cs) (h2 : w.ownsRow B' e' s' v n' cs') (hne : e ≠ e') : Dis u v := fun k hu hv => by
  rcases h1.2 with ⟨rfl, -⟩ | ⟨g, cap, cur, rfl, -, hg, -⟩
  · cases hu
  rcases h2.2 with ⟨rfl, -⟩ | ⟨g', cap', cur', rfl, -, hg', -⟩
  · cases hv
  simp only [Value.ownBlock, Option.some.injEq] at hu hv
  subst hu hv
  rw [hg] at hg'
  simp only [Option.some.injEq, Obj.cells.injEq] at hg'
  exact hne hg'.2.1
/-- 'append' of a row of a call's own to rows of a call's own. -/
theorem wpList_appII {ops : Array Oper} {rest : List Oper} {o : Oper} {a : Act} {Q : Exit → Act → World → Prop} {w : World} (B T : Nat) (us : List Value) (xss : List (List Int)) (xs : List Int) {s x : Operand} {v ui : Value} {g : Nat} (hgd : o.guard = none)
    (ho : o.op = .call { callee := .builtin .append, args := #[s, x], argTypes := #[67, 67] }) (hs : a.eval s = v) (hx : a.eval x = .slice (some ⟨g, 0, none⟩) 1 1)
    (hown : OII B T w v us xss) (hcell : w.cell? ⟨g, 0, none⟩ = some ui) (hui : OI B w ui xs) (hd : ∀ i (h1 : i < us.length), Dis us[i] ui) (hd2 : Dis v ui) (hsl : ui.oneCell' = true) (hl : us.length ≤ 1048577) (hB : B ≤ w.heap.size) (hT : T ≤ w.heap.size)
    (h : ∀ u' w', OII B w'.heap.size w' u' (us ++ [ui]) (xss ++ [xs]) → Below B w w' → wpList Try.prog ops Q rest (a.put o.dst u') w') : wpList Try.prog ops Q (o :: rest) a w := by
  have hinfo : (Try.prog.info? 32).map (fun i => (i.zero, i.size, i.bytes)) = some (some (.slice none 0 0), 1, 24) := by kernel_rfl
  obtain ⟨i, hi, hzz⟩ := Option.map_eq_some_iff.1 hinfo
  simp only [Prod.mk.injEq] at hzz
  obtain ⟨hz, hsz, hby⟩ := hzz
  refine wpList_append_own w hgd s x 67 ho B 32 i (.slice none 0 0) 1 24 Try.underlying67 hi hz hsz hby rfl (by decide) v us.length _ hs hown.row ⟨g, 0, none⟩ 1 1 [ui] hx rfl ?_ ?_ (by unfold maxLen; omega) (by omega) hB ?_
  · intro j u hj
    match j, hj with
    | 0, hj => simp at hj; subst hj; simpa [Addr.add] using hcell
  · intro u hu; simp at hu; subst hu; exact hsl
  · intro v' w' h1 h2 h3
    have hrow : w'.ownsRow B 32 1 v' (us ++ [ui]).length (us ++ [ui]) := by simpa using h1
    have hin : ∀ i (h1 : i < us.length) (h3 : i < xss.length), OI B w' us[i] xss[i] := fun i h1 h3 => kept_dis (hown.inner i h1 h3) h2 (hown.out i h1)
    have hui' : OI B w' ui xs := kept_dis hui h2 hd2
    have hne : (32 : TypeId) ≠ 2 := by decide
    exact h v' w' (hown.snoc hrow hin hui' hd (fun i h1 => dis_types hrow (hin i h1 (by have := hown.len; omega)) hne) (dis_types hrow hui' hne) (Nat.le_refl _)) (grown_below hown.row h2 hB (Nat.le_refl _))
end Go.Proofs.Ytmpmnhnobgidoaa
