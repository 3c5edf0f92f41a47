/- Walks: lists of numbers that grow. -/
import Derived.Test.YtmnhdheckflbdaaM
import Derived.Test.YtmnhdheckflbdaaD
namespace Go.Proofs.Ytmnhdheckflbdaa
set_option linter.unusedSimpArgs false
set_option linter.unusedVariables false
open Go.RowKit Go.Fl

theorem cell_top1 (w : World) (k : Nat) (hk : k = w.heap.size) (v : Value) (t : TypeId) : (w.alloc (.cells #[v] t)).cell? ⟨k, 0, none⟩ = some v := by
  subst hk
  rw [cell_of_row _ _ _ _ t (0, 0) (heap_alloc_new w _)]; rfl
/-- 'append' of one number to a slice of the call's own. -/
theorem wpList_appF {ops : Array Oper} {rest : List Oper} {o : Oper} {a : Act} {Q : Exit → Act → World → Prop} {w : World} (B : Nat) (xs : List Nat) (r : Nat) {s x : Operand} {v : Value} {g : Nat} (hgd : o.guard = none)
    (ho : o.op = .call { callee := .builtin .append, args := #[s, x], argTypes := #[24, 24] }) (hs : a.eval s = v) (hx : a.eval x = .slice (some ⟨g, 0, none⟩) 1 1)
    (hown : OF B w v xs) (hcell : w.cell? ⟨g, 0, none⟩ = some (.float .f32 r)) (hl : xs.length ≤ 1048576) (hB : B ≤ w.heap.size)
    (h : ∀ u w', OF B w' u (xs ++ [r]) → Below B w w' → wpList Try.prog ops Q rest (a.put o.dst u) w') : wpList Try.prog ops Q (o :: rest) a w := by
  have hinfo : (Try.prog.info? 32).map (fun i => (i.zero, i.size, i.bytes)) = some (some (.float .f32 0), 1, 4) := by kernel_rfl
  obtain ⟨i, hi, hzz⟩ := Option.map_eq_some_iff.1 hinfo
  simp only [Prod.mk.injEq] at hzz
  obtain ⟨hz, hsz, hby⟩ := hzz
  refine wpList_append_own w hgd s x 24 ho B 32 i (.float .f32 0) 1 4 Try.underlying24 hi hz hsz hby rfl (by decide) v xs.length _ hs hown ⟨g, 0, none⟩ 1 1 [.float .f32 r] hx rfl ?_ ?_ (by unfold maxLen; omega) (by omega) hB ?_
  · intro j u hj
    match j, hj with
    | 0, hj => simp at hj; subst hj; simpa [Addr.add] using hcell
  · intro u hu; simp at hu; subst hu; rfl
  · intro v' w' h1 h2 _
    refine h v' w' ?_ (grown_below hown h2 hB (Nat.le_refl _))
    show w'.ownsRow _ _ _ _ _ _
    simpa using h1

/-- What a function gives that has a list and whether it succeeds. -/
def ListOut (good : Bool) (ys : List Nat) (w : World) (e : Ending) (w' : World) : Prop :=
  ∃ u zs, e = .returned (.tuple #[u, .bool good]) ∧ OF w.heap.size w' u zs ∧ FEq zs (if good then ys else []) ∧ Below w.heap.size w w'
theorem ListOut.no {good : Bool} {ys : List Nat} {w w' : World} (hg : good = false) (hb : Below w.heap.size w w') : ListOut good ys w (.returned (.tuple #[.slice none 0 0, .bool false])) w' := by
  subst hg
  exact ⟨_, [], rfl, World.ownsRow_nil _ _ _ _, rfl, hb⟩
theorem ListOut.ok {good : Bool} {ys zs : List Nat} {u : Value} {w w' : World} (hg : good = true) (ho : OF w.heap.size w' u zs) (hz : FEq zs ys) (hb : Below w.heap.size w w') : ListOut good ys w (.returned (.tuple #[u, .bool true])) w' := by
  subst hg
  exact ⟨u, zs, rfl, ho, hz, hb⟩
theorem OF_nil (B : Nat) (w : World) : OF B w (.slice none 0 0) [] := World.ownsRow_nil _ _ _ _
theorem OF_empty (B : Nat) (w : World) (k : Nat) (hk : k = w.heap.size) (hB : B ≤ w.heap.size) (t : TypeId) (ht : t = 32) : OF B (w.alloc (.cells #[] t)) (.slice (some ⟨k, 0, none⟩) 0 0) [] := by
  subst hk ht
  exact World.ownsRow_lit w #[] 0 hB (by unfold maxLen; omega) rfl
theorem FEq.snoc {xs ys : List Nat} {x y : Nat} (h : FEq xs ys) (e : cn .f32 x = cn .f32 y) : FEq (xs ++ [x]) (ys ++ [y]) := by
  unfold FEq at *
  rw [List.map_append, List.map_append, h]
  simp [e]
theorem FEq_fin {xs ys : List Nat} (h : FEq xs ys) : finAll xs = finAll ys := by
  unfold finAll
  have e : ∀ l : List Nat, l.all (fin .f32) = (l.map (cn .f32)).all (fin .f32) := fun l => by
    rw [List.all_map]; congr 1; funext x; exact (fin_cn _ _).symm
  rw [e xs, e ys, h]

/-- Two lists, each number times its own. -/
def mixed (xs ys : List Nat) (x y : Nat) : List Nat := List.zipWith (fun p q => fa .add .f32 (fa .mul .f32 x p) (fa .mul .f32 y q)) xs ys
theorem mixed_take (xs ys : List Nat) (x y k : Nat) (h1 : k < xs.length) (h2 : k < ys.length) : (mixed xs ys x y).take (k + 1) = (mixed xs ys x y).take k ++ [fa .add .f32 (fa .mul .f32 x xs[k]) (fa .mul .f32 y ys[k])] := by
  have hk : k < (mixed xs ys x y).length := by simp [mixed]; omega
  rw [List.take_succ_eq_append_getElem hk]
  simp [mixed]
theorem mixed_get (xs ys : List Nat) (x y k : Nat) (h1 : k < xs.length) (h2 : k < ys.length) : ∃ h : k < (mixed xs ys x y).length, (mixed xs ys x y)[k] = fa .add .f32 (fa .mul .f32 x xs[k]) (fa .mul .f32 y ys[k]) :=
  ⟨by simp [mixed]; omega, by simp [mixed]⟩
theorem mixed_length (xs ys : List Nat) (x y : Nat) (h : xs.length = ys.length) : (mixed xs ys x y).length = xs.length := by simp [mixed]; omega
def mixPre (xs ys : List Nat) (x y : Nat) : Bool := loadsOk xs && loadsOk ys && decide (xs.length = ys.length) && fin .f32 x && fin .f32 y
def mixGood (xs ys : List Nat) (x y : Nat) : Bool := mixPre xs ys x y && finAll (mixed xs ys x y)
end Go.Proofs.Ytmnhdheckflbdaa
