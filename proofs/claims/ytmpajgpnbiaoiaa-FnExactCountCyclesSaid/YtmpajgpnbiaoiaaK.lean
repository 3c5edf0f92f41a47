/- Walks: the longest cycle. -/
import Derived.Test.YtmpajgpnbiaoiaaE
namespace Go.Proofs.Ytmpajgpnbiaoiaa
set_option linter.unusedSimpArgs false
set_option linter.unusedVariables false
open Go.RowKit Go.Fl

theorem wp_world {P : Program} {c : Code} {Q : Exit → Act → World → Prop} {a : Act} {w : World} (h : ∀ w', Hid (w' = w) → c.wp P Q a w') : c.wp P Q a w := h w rfl
def rng (c : Cyc) : Nat := fa .sub .f32 c.hi c.lo
def rngAt (cs : List Cyc) (k : Nat) : Nat := rng (cs.getD k zeroCyc)
def bestAt (cs : List Cyc) : Nat → Nat
  | 0 => 0
  | k + 1 => if fgt .f32 (rngAt cs k) (rngAt cs (bestAt cs k)) then k else bestAt cs k
theorem bestAt_lt (cs : List Cyc) (h : 1 ≤ cs.length) : ∀ k, k ≤ cs.length → bestAt cs k < cs.length
  | 0, _ => h
  | k + 1, hk => by
    unfold bestAt
    split
    · exact hk
    · exact bestAt_lt cs h k (by omega)
theorem cn_rng (c : Cyc) : cn .f32 (rng c) = rng c := cn_fa _ _ _ _
theorem cn_rngAt (cs : List Cyc) (k : Nat) : cn .f32 (rngAt cs k) = rngAt cs k := cn_rng _
theorem fgt_is {r q x y : Nat} {b : Bool} (h1 : cn .f32 r = x) (h2 : cn .f32 q = y) (hx : cn .f32 x = x) (hy : cn .f32 y = y) (hf : fgt .f32 x y = b) : (FloatKind.f32.format.order r q == some .gt) = b := by
  rw [od_congr (h1.trans hx.symm) (h2.trans hy.symm)]; exact hf
theorem rngAt_of {cs : List Cyc} {k : Nat} (hk : k < cs.length) : rngAt cs k = fa .sub .f32 cs[k].hi cs[k].lo := by simp [rngAt, rng, hk]
def longGood (cs : List Cyc) : Bool := areCyc cs && decide (1 ≤ cs.length)
/-- The place, if all is good. -/
def place (good : Bool) (I S : Nat) : Nat := if good && fin .f32 S then I else 0
/-- What a function gives that has a place, a number and whether it succeeds. -/
def Num1I (good : Bool) (I : Nat) (S : Nat) (w : World) (e : Ending) (w' : World) : Prop :=
  ∃ r, e = .returned (.tuple #[.int .i64 (place good I S : Nat), .float .f32 r, .bool (good && fin .f32 S)]) ∧ cn .f32 r = cn .f32 (if good then num S else 0) ∧ Below w.heap.size w w'
theorem Num1I.no {good : Bool} {I S : Nat} {w w' : World} (hg : good = false) (hb : Below w.heap.size w w') : Num1I good I S w (.returned (.tuple #[.int .i64 0, .float .f32 0, .bool false])) w' := by
  subst hg
  exact ⟨0, rfl, rfl, hb⟩
theorem Num1I.inf {good : Bool} {I S : Nat} {w w' : World} (hf : fin .f32 S = false) (hb : Below w.heap.size w w') : Num1I good I S w (.returned (.tuple #[.int .i64 0, .float .f32 0, .bool false])) w' := by
  refine ⟨0, by unfold place; rw [hf, Bool.and_false]; rfl, ?_, hb⟩
  unfold num
  rw [hf]
  split <;> rfl
theorem Num1I.ok {good : Bool} {I S r : Nat} {w w' : World} (hg : good = true) (hf : fin .f32 S = true) (hr : cn .f32 r = cn .f32 S) (hb : Below w.heap.size w w') : Num1I good I S w (.returned (.tuple #[.int .i64 (I : Int), .float .f32 r, .bool true])) w' := by
  subst hg
  exact ⟨r, by unfold place; rw [hf]; rfl, by unfold num; rw [hf]; exact hr, hb⟩
theorem cyc_top (w : World) (k : Nat) (hk : k = w.heap.size) (lo hi : Nat) (wh : Bool) (t : TypeId) : CycAt (w.alloc (.cells #[.float .f32 lo, .float .f32 hi, .bool wh] t)) k 0 ⟨lo, hi, wh⟩ := by
  subst hk
  refine ⟨?_, ?_, ?_⟩ <;> (rw [cell_of_row _ _ _ _ t (0, 0) (heap_alloc_new w _)]; rfl)
/-- Of a cycle's cells, in every later world. -/
theorem CycAt.later {w : World} {b o : Nat} {c : Cyc} (h : CycAt w b o c) (x : Later w) : CycAt x.to b o c := ⟨x.cell h.1, x.cell h.2.1, x.cell h.2.2⟩
theorem CycAt.below {w w' : World} {b o : Nat} {c : Cyc} (h : CycAt w b o c) (hb : Below w.heap.size w w') : CycAt w' b o c :=
  ⟨(hb.cell (p := ⟨b, o, none⟩) (block_lt_of_cell h.1)).trans h.1, (hb.cell (p := ⟨b, o + 1, none⟩) (block_lt_of_cell h.2.1)).trans h.2.1, (hb.cell (p := ⟨b, o + 2, none⟩) (block_lt_of_cell h.2.2)).trans h.2.2⟩
def RngRel (F : Nat) (f : FuncId) (args : Array Value) (u : Value) : Prop := ∀ c, args = #[cyc c] → f = F → ∃ r, u = .float .f32 r ∧ cn .f32 r = rng c
theorem s_l07Are' (v : Value) (cs : List Cyc) (w : World) (hx : RC w v cs) : Calls Try.prog 56 #[v] w fun e w' => e = .returned (.bool (areCyc cs)) ∧ ∃ n, w' = w.drewN n := s_l07Are v cs w hx
theorem i_rangeOf (c : Cyc) (w : World) : Calls Try.prog 54 #[cyc c] w fun e w' => (∃ r, e = .returned (.float .f32 r) ∧ cn .f32 r = rng c) ∧ Below w.heap.size w w' := by
  obtain ⟨lo, hi, wh⟩ := c
  go_enter Try.func54, Try.ntmps54
  go_wp2_with (refine wpList_fa rfl rfl rfl rfl rfl (by first | assumption | exact hrfl _) (by first | assumption | exact hrfl _) ?_; intro r n hr)
  go_ret
  exact ⟨⟨_, rfl, by rw [hr.out]; simp only [fa_cn_left, fa_cn_right]; rfl⟩, (by repeat (first | exact Below.refl _ _ | assumption | refine below_drewN ?_ _ | refine below_alloc (Nat.le_refl _) ?_ _ | (refine Below.setCell ?_ (by first | exact Nat.le_refl _ | (simp; done) | (simp; omega) | omega) _) | (refine below_step (Nat.le_refl _) ?_ (by assumption))))⟩
end Go.Proofs.Ytmpajgpnbiaoiaa
