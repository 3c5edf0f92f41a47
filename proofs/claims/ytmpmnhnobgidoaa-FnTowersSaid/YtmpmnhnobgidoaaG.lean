/- Walks: lists of numbers that grow. -/
import Derived.Test.YtmpmnhnobgidoaaM
import Derived.Test.YtmpmnhnobgidoaaD
namespace Go.Proofs.Ytmpmnhnobgidoaa
set_option linter.unusedSimpArgs false
set_option linter.unusedVariables false
open Go.RowKit Go.Fl

theorem cell_top1 (w : World) (k : Nat) (hk : k = w.heap.size) (v : Value) (t : TypeId) : (w.alloc (.cells #[v] t)).cell? ⟨k, 0, none⟩ = some v := by
  subst hk
  rw [cell_of_row _ _ _ _ t (0, 0) (heap_alloc_new w _)]; rfl
/-- 'append' of one number to a slice of the call's own. -/
theorem wpList_appF {ops : Array Oper} {rest : List Oper} {o : Oper} {a : Act} {Q : Exit → Act → World → Prop} {w : World} (B : Nat) (xs : List Nat) (r : Nat) {s x : Operand} {v : Value} {g : Nat} (hgd : o.guard = none)
    (ho : o.op = .call { callee := .builtin .append, args := #[s, x], argTypes := #[24, 24] }) (hs : a.eval s = v) (hx : a.eval x = .slice (some ⟨g, 0, none⟩) 1 1)
    (hown : OF B w v xs) (hcell : w.cell? ⟨g, 0, none⟩ = some (.float .f32 r)) (hl : xs.length ≤ 1048576) (hB : B ≤ w.heap.size)
    (h : ∀ u w', OF B w' u (xs ++ [r]) → Below B w w' → wpList Try.prog ops Q rest (a.put o.dst u) w') : wpList Try.prog ops Q (o :: rest) a w := by
  have hinfo : (Try.prog.info? 26).map (fun i => (i.zero, i.size, i.bytes)) = some (some (.float .f32 0), 1, 4) := by kernel_rfl
  obtain ⟨i, hi, hzz⟩ := Option.map_eq_some_iff.1 hinfo
  simp only [Prod.mk.injEq] at hzz
  obtain ⟨hz, hsz, hby⟩ := hzz
  refine wpList_append_own w hgd s x 24 ho B 26 i (.float .f32 0) 1 4 Try.underlying24 hi hz hsz hby rfl (by decide) v xs.length _ hs hown ⟨g, 0, none⟩ 1 1 [.float .f32 r] hx rfl ?_ ?_ (by unfold maxLen; omega) (by omega) hB ?_
  · intro j u hj
    match j, hj with
    | 0, hj => simp at hj; subst hj; simpa [Addr.add] using hcell
  · intro u hu; simp at hu; subst hu; rfl
  · intro v' w' h1 h2 _
    refine h v' w' ?_ (grown_below hown h2 hB (Nat.le_refl _))
    show w'.ownsRow _ _ _ _ _ _
    simpa using h1

/-- What a function gives that has a list and whether it succeeds. -/
def ListOut (good : Bool) (ys : List Nat) (w : World) (e : Ending) (w' : World) : Prop :=
  ∃ u zs, e = .returned (.tuple #[u, .bool good]) ∧ OF w.heap.size w' u zs ∧ FEq zs (if good then ys else []) ∧ Below w.heap.size w w'
theorem ListOut.no {good : Bool} {ys : List Nat} {w w' : World} (hg : good = false) (hb : Below w.heap.size w w') : ListOut good ys w (.returned (.tuple #[.slice none 0 0, .bool false])) w' := by
  subst hg
  exact ⟨_, [], rfl, World.ownsRow_nil _ _ _ _, rfl, hb⟩
theorem ListOut.ok {good : Bool} {ys zs : List Nat} {u : Value} {w w' : World} (hg : good = true) (ho : OF w.heap.size w' u zs) (hz : FEq zs ys) (hb : Below w.heap.size w w') : ListOut good ys w (.returned (.tuple #[u, .bool true])) w' := by
  subst hg
  exact ⟨u, zs, rfl, ho, hz, hb⟩
theorem OF_nil (B : Nat) (w : World) : OF B w (.slice none 0 0) [] := World.ownsRow_nil _ _ _ _
theorem OF_empty (B : Nat) (w : World) (k : Nat) (hk : k = w.heap.size) (hB : B ≤ w.heap.size) (t : TypeId) (ht : t = 26) : OF B (w.alloc (.cells #[] t)) (.slice (some ⟨k, 0, none⟩) 0 0) [] := by
  subst hk ht
  exact World.ownsRow_lit w #[] 0 hB (by unfold maxLen; omega) rfl
theorem FEq.snoc {xs ys : List Nat} {x y : Nat} (h : FEq xs ys) (e : cn .f32 x = cn .f32 y) : FEq (xs ++ [x]) (ys ++ [y]) := by
  unfold FEq at *
  rw [List.map_append, List.map_append, h]
  simp [e]
theorem FEq_fin {xs ys : List Nat} (h : FEq xs ys) : finAll xs = finAll ys := by
  unfold finAll
  have e : ∀ l : List Nat, l.all (fin .f32) = (l.map (cn .f32)).all (fin .f32) := fun l => by
    rw [List.all_map]; congr 1; funext x; exact (fin_cn _ _).symm
  rw [e xs, e ys, h]

/-- Two lists, each number times its own. -/
def mixed (xs ys : List Nat) (x y : Nat) : List Nat := List.zipWith (fun p q => fa .add .f32 (fa .mul .f32 x p) (fa .mul .f32 y q)) xs ys
theorem mixed_take (xs ys : List Nat) (x y k : Nat) (h1 : k < xs.length) (h2 : k < ys.length) : (mixed xs ys x y).take (k + 1) = (mixed xs ys x y).take k ++ [fa .add .f32 (fa .mul .f32 x xs[k]) (fa .mul .f32 y ys[k])] := by
  have hk : k < (mixed xs ys x y).length := by simp [mixed]; omega
  rw [List.take_succ_eq_append_getElem hk]
  simp [mixed]
theorem mixed_get (xs ys : List Nat) (x y k : Nat) (h1 : k < xs.length) (h2 : k < ys.length) : ∃ h : k < (mixed xs ys x y).length, (mixed xs ys x y)[k] = fa .add .f32 (fa .mul .f32 x xs[k]) (fa .mul .f32 y ys[k]) :=
  ⟨by simp [mixed]; omega, by simp [mixed]⟩
theorem mixed_length (xs ys : List Nat) (x y : Nat) (h : xs.length = ys.length) : (mixed xs ys x y).length = xs.length := by simp [mixed]; omega
def mixPre (xs ys : List Nat) (x y : Nat) : Bool := loadsOk xs && loadsOk ys && decide (xs.length = ys.length) && fin .f32 x && fin .f32 y
def mixGood (xs ys : List Nat) (x y : Nat) : Bool := mixPre xs ys x y && finAll (mixed xs ys x y)
theorem i_checkedList (v : Value) (zs : List Nat) (w : World) (hx : RF w v zs) : Calls Try.prog 53 #[v] w fun e w' => e = .returned (.tuple #[if finAll zs then v else .slice none 0 0, .bool (finAll zs)]) ∧ ∃ n, w' = w.drewN n := by
  cases hf : finAll zs
  all_goals
    have HF := Lib.hid hf
    clear hf
    go_enter Try.func53, Try.ntmps53
    go_wp2_with (go_at_call 52; refine (i_areFinite _ zs _ hx).mono ?_; rintro e w' ⟨rfl, n, rfl⟩; rw [HF.out])
    go_ret2
    exact ⟨by simp, _, rfl⟩
set_option maxHeartbeats 1000000 in
theorem i_MixLoads (v v' : Value) (xs ys : List Nat) (x y : Nat) (w : World) (hx : RF w v xs) (hy : RF w v' ys) (hl : xs.length ≤ 1048576) :
    Calls Try.prog 14 #[v, v', .float .f32 x, .float .f32 y] w (ListOut (mixGood xs ys x y) (mixed xs ys x y) w) := by
  obtain ⟨p1, cap1, rfl, hm1, hc1⟩ := id hx
  obtain ⟨p2, cap2, rfl, hm2, hc2⟩ := id hy
  have HX := Lib.hid hx
  have HY := Lib.hid hy
  have HC1 := Lib.hid hc1
  have HC2 := Lib.hid hc2
  clear hx hy hc1 hc2
  cases hfy : finAll [x, y]
  all_goals
    go_enter Try.func14, Try.ntmps14
    go_wp2_with (first | (go_at_call 48; refine (i_areLoads _ _ _ (by with_reducible first | exact HX.out.drewN _ | exact HX.out | exact HY.out.drewN _ | exact HY.out)).mono ?_; rintro e w' ⟨rfl, n, rfl⟩) | (go_at_call 52; refine (i_areFinite _ [x, y] _ (RF_top2 _ _ (by simp) _ _ _)).mono ?_; rintro e w' ⟨rfl, n, rfl⟩))
    all_goals first
      | (go_tidy
         go_ret2
         have hne : ¬ xs.length = ys.length := by omega
         exact ListOut.no (by simp [mixGood, mixPre, hne]) (by repeat (first | exact Below.refl _ _ | assumption | refine below_drewN ?_ _ | refine below_alloc (Nat.le_refl _) ?_ _ | (refine Below.setCell ?_ (by first | exact Nat.le_refl _ | (simp; done) | (simp; omega) | omega) _) | (refine below_step (Nat.le_refl _) ?_ (by assumption)))))
      | (go_tidy
         go_ret2
         exact ListOut.no (by cases hb0 : loadsOk xs <;> cases hb1 : loadsOk ys <;> cases hb2 : fin .f32 x <;> cases hb3 : fin .f32 y <;> simp_all [mixGood, mixPre, finAll]) (by repeat (first | exact Below.refl _ _ | assumption | refine below_drewN ?_ _ | refine below_alloc (Nat.le_refl _) ?_ _ | (refine Below.setCell ?_ (by first | exact Nat.le_refl _ | (simp; done) | (simp; omega) | omega) _) | (refine below_step (Nat.le_refl _) ?_ (by assumption)))))
      | skip
  have HG : Hid (mixPre xs ys x y = true) := by show _ = _; unfold mixPre; simp_all [finAll]; omega
  have HL : Hid (xs.length = ys.length) := by show _ = _; omega
  go_loopw [10, 38] (fun t i wr => ∃ (k : Nat) (zs : List Nat), k ≤ xs.length ∧ i = .int .i64 k ∧ OF w.heap.size wr t zs ∧ FEq zs ((mixed xs ys x y).take k) ∧ Below w.heap.size w wr) (fun _ i _ => xs.length - (intOf i).toNat)
  case atStart => exact ⟨0, [], Nat.zero_le _, rfl, OF_empty _ _ _ (by simp) (by simp; try omega) _ rfl, rfl, (by repeat (first | exact Below.refl _ _ | assumption | refine below_drewN ?_ _ | refine below_alloc (Nat.le_refl _) ?_ _ | (refine Below.setCell ?_ (by first | exact Nat.le_refl _ | (simp; done) | (simp; omega) | omega) _) | (refine below_step (Nat.le_refl _) ?_ (by assumption))))⟩
  case round =>
    obtain ⟨k, zs, hk, rfl, hown, hz, hb⟩ := hrel
    by_cases hlt : k < xs.length
    · have hlt2 : k < ys.length := by rw [← HL.out]; exact hlt
      obtain ⟨b1, o1, rfl, hcell1⟩ := HC1.out.resolve_left (by omega)
      obtain ⟨b2, o2, rfl, hcell2⟩ := HC2.out.resolve_left (by omega)
      have g1 : w.cell? ⟨b1, o1 + k, none⟩ = some (.float .f32 xs[k]) := hcell1 k _ (by simp [hlt])
      have g2 : w.cell? ⟨b2, o2 + k, none⟩ = some (.float .f32 ys[k]) := hcell2 k _ (by simp [hlt2])
      have g1 := (hb.cell (p := ⟨b1, o1 + k, none⟩) (block_lt_of_cell g1)).trans g1
      have g2 := (hb.cell (p := ⟨b2, o2 + k, none⟩) (block_lt_of_cell g2)).trans g2
      have HT := Lib.hid (mixed_take xs ys x y k hlt hlt2)
      have HZ := Lib.hid hz
      have HB := Lib.hid hb
      have HO := Lib.hid hown
      have hzl : zs.length ≤ 1048576 := by have := hz.length; simp at this; omega
      clear hcell1 hcell2 hz hb hown
      go_wp2_with (first | (refine wpList_fa rfl rfl rfl rfl rfl (by first | assumption | exact hrfl _) (by first | assumption | exact hrfl _) ?_; intro r n hr) | (at_builtin; refine wpList_appF w.heap.size zs r rfl rfl rfl rfl ?_ ?_ hzl ?_ ?_))
      case _ => exact OF_below HO.out (by repeat (first | exact Below.refl _ _ | assumption | refine below_drewN ?_ _ | refine below_alloc (Nat.le_refl _) ?_ _ | (refine Below.setCell ?_ (by first | exact Nat.le_refl _ | (simp; done) | (simp; omega) | omega) _) | (refine below_step (Nat.le_refl _) ?_ (by assumption))))
      case _ => exact cell_top1 _ _ (by simp) _ _
      case _ => have := HB.out.size; simp; omega
      intro u w1 h1 h2
      have H1 := Lib.hid h1
      have H2 := Lib.hid h2
      clear h1 h2
      go_wp2
      go_roundw
      case rel =>
        refine ⟨k + 1, _, by omega, by go_num, H1.out, ?_, ?_⟩
        · rw [HT.out]; exact HZ.out.snoc (by rw [hr.out]; simp only [fa_cn_left, fa_cn_right, cn_fa])
        · have hb := HB.out
          exact Below.trans (by repeat (first | exact Below.refl _ _ | assumption | refine below_drewN ?_ _ | refine below_alloc (Nat.le_refl _) ?_ _ | (refine Below.setCell ?_ (by first | exact Nat.le_refl _ | (simp; done) | (simp; omega) | omega) _) | (refine below_step (Nat.le_refl _) ?_ (by assumption)))) H2.out
      case measure => simp [intOf]; omega
    · obtain rfl : k = xs.length := by omega
      have HZ : Hid (FEq zs (mixed xs ys x y)) := by show FEq _ _; rw [← mixed_length xs ys x y HL.out, List.take_length] at hz; exact hz
      have hzl : zs.length ≤ 1048576 := by have := HZ.out.length; rw [mixed_length xs ys x y HL.out] at this; omega
      have HR := Lib.hid (RF_of_own hown (by omega))
      have HB := Lib.hid hb
      have HO := Lib.hid hown
      clear hz hb hown
      cases hff : finAll zs
      all_goals
        have HF := Lib.hid hff
        clear hff
        go_wp2_with (go_at_call 53; refine (i_checkedList _ zs _ HR.out).mono ?_; rintro e w' ⟨rfl, n, rfl⟩; rw [HF.out])
        go_ret2
      · exact ListOut.no (by unfold mixGood; rw [← FEq_fin HZ.out, HF.out, Bool.and_false]) (below_drewN HB.out _)
      · exact ListOut.ok (by unfold mixGood; rw [HG.out, ← FEq_fin HZ.out, HF.out]; rfl) (OF_below HO.out (below_drewN (Below.refl _ _) _)) HZ.out (below_drewN HB.out _)
end Go.Proofs.Ytmpmnhnobgidoaa
