/- Walks: a list of numbers read, the program's. -/
import Derived.Test.YtpkkgfjjnggijaaGreatDoorRC
namespace Go.Proofs.YtpkkgfjjnggijaaGreatDoor
set_option linter.unusedSimpArgs false
set_option linter.unusedVariables false
open Go.RowKit Go.Fl Go.Tx Go.Lib

theorem pieces_size (c : UInt8) : ∀ (l p : List UInt8), p ∈ pieces c l → p.length ≤ l.length
  | [], p, h => by simp [pieces] at h; subst h; simp
  | x :: l, p, h => by
    by_cases hx : x = c
    · subst hx
      have e : pieces x (x :: l) = [] :: pieces x l := pieces_mark x [] l (by simp)
      rw [e] at h
      rcases List.mem_cons.1 h with rfl | h
      · simp
      · have := pieces_size x l p h; simp; omega
    · obtain ⟨q, qs, e1, e2⟩ := pieces_cons c hx l
      rw [e2] at h
      rcases List.mem_cons.1 h with rfl | h
      · have := pieces_size c l q (by rw [e1]; simp)
        simp; omega
      · have := pieces_size c l p (by rw [e1]; simp [h])
        simp; omega
theorem cutAll_size (c : UInt8) (s : ByteArray) {p : ByteArray} (h : p ∈ cutAll c s) : p.size ≤ s.size := by
  have h1 : p.data.toList ∈ pieces c s.data.toList := by
    rw [← cutAll_pieces]
    exact List.mem_map.2 ⟨p, h, rfl⟩
  exact pieces_size c _ _ h1
theorem none_eq (t : ByteArray) : (t.toList == [110, 111, 110, 101]) = decide (t = noneB) := by
  rw [show ([110, 111, 110, 101] : List UInt8) = noneB.toList by rw [Go.Lib.toList_data]; rfl, toList_eq]
/-- The words of a text of numbers. -/
def wordsB (t : ByteArray) : List ByteArray := if t = noneB then [] else cutAll 44 t
theorem wordsB_size {t p : ByteArray} (h : p ∈ wordsB t) : p.size ≤ t.size := by
  unfold wordsB at h
  split at h
  · simp at h
  · exact cutAll_size 44 t h
theorem wordsB_len (t : ByteArray) : (wordsB t).length ≤ t.size + 1 := by
  unfold wordsB
  split
  · simp
  · exact (cutAll_len 44 t).2
theorem numsOf_words (t : ByteArray) : numsOf t = if (wordsB t).length ≤ 256 then wordsOf (wordsB t) else none := by
  unfold numsOf wordsB
  by_cases h : t = noneB
  · rw [if_pos h, if_pos h]; rfl
  · rw [if_neg h, if_neg h]
/-- 'append' of one number to a slice of the call's own. -/
theorem wpList_appN {ops : Array Oper} {rest : List Oper} {o : Oper} {a : Act} {Q : Exit → Act → World → Prop} {w : World} (B : Nat) (xs : List Nat) (r : Nat) {s x : Operand} {v : Value} {g : Nat} (hgd : o.guard = none)
    (ho : o.op = .call { callee := .builtin .append, args := #[s, x], argTypes := #[31, 31] }) (hs : a.eval s = v) (hx : a.eval x = .slice (some ⟨g, 0, none⟩) 1 1)
    (hown : OF B w v xs) (hcell : w.cell? ⟨g, 0, none⟩ = some (.float .f32 r)) (hl : xs.length ≤ 1048577) (hB : B ≤ w.heap.size)
    (h : ∀ u w', OF B w' u (xs ++ [r]) → Below B w w' → wpList Tryz.prog ops Q rest (a.put o.dst u) w') : wpList Tryz.prog ops Q (o :: rest) a w := by
  have hinfo : (Tryz.prog.info? 22).map (fun i => (i.zero, i.size, i.bytes)) = some (some (.float .f32 0), 1, 4) := by kernel_rfl
  obtain ⟨i, hi, hzz⟩ := Option.map_eq_some_iff.1 hinfo
  simp only [Prod.mk.injEq] at hzz
  obtain ⟨hz, hsz, hby⟩ := hzz
  refine wpList_append_own w hgd s x 31 ho B 22 i (.float .f32 0) 1 4 Tryz.underlying31 hi hz hsz hby rfl (by decide) v xs.length _ hs hown ⟨g, 0, none⟩ 1 1 [.float .f32 r] hx rfl ?_ ?_ (by unfold maxLen; omega) (by omega) hB ?_
  · intro j u hj
    match j, hj with
    | 0, hj => simp at hj; subst hj; simpa [Addr.add] using hcell
  · intro u hu; simp at hu; subst hu; rfl
  · intro v' w' h1 h2 _
    refine h v' w' ?_ (grownS_below hown h2 hB (Nat.le_refl _))
    show w'.ownsRow _ _ _ _ _ _
    simpa using h1
theorem OF_nilN (B : Nat) (w : World) : OF B w (.slice none 0 0) [] := World.ownsRow_nil _ _ _ _
theorem OF_emptyN (B : Nat) (w : World) (k : Nat) (hk : k = w.heap.size) (hB : B ≤ w.heap.size) (t : TypeId) (ht : t = 22) : OF B (w.alloc (.cells #[] t)) (.slice (some ⟨k, 0, none⟩) 0 0) [] := by
  subst hk ht
  exact World.ownsRow_lit w #[] 0 hB (by unfold maxLen; omega) rfl
theorem OF_leN {B B' : Nat} {w : World} {v : Value} {xs : List Nat} (h : OF B w v xs) (hb : B' ≤ B) : OF B' w v xs :=
  ⟨h.1, h.2.imp id fun ⟨g, cap, cur, e, hb1, r⟩ => ⟨g, cap, cur, e, Nat.le_trans hb hb1, r⟩⟩
theorem OF_belowN {B : Nat} {w w' : World} {v : Value} {xs : List Nat} (h : OF B w v xs) (hb : Below w.heap.size w w') : OF B w' v xs := ownS_below h hb
theorem RS_topN (w : World) (k : Nat) (hk : k = w.heap.size) (ss : List ByteArray) (t : TypeId) (hl : ss.length ≤ 281474976710656) : RS (w.alloc (.cells (ss.map Value.string).toArray t)) (.slice (some ⟨k, 0, none⟩) ss.length ss.length) ss := by
  subst hk
  refine ⟨_, _, rfl, hl, .inr ⟨_, _, rfl, fun j u h => ?_⟩⟩
  rw [Nat.zero_add, cell_of_row _ _ _ _ t (0, 0) (heap_alloc_new w _)]
  simpa using h
/-- What a text of numbers is read as. -/
def NumsOut (t : ByteArray) (w : World) (e : Ending) (w' : World) : Prop := ∃ u, e = .returned (.tuple #[u, .bool (numsOf t).isSome]) ∧ OF w.heap.size w' u ((numsOf t).getD []) ∧ Below w.heap.size w w'
theorem NumsOut.no {t : ByteArray} {w w' : World} (h : numsOf t = none) (hb : Below w.heap.size w w') : NumsOut t w (.returned (.tuple #[.slice none 0 0, .bool false])) w' :=
  ⟨_, by rw [h]; rfl, by rw [h]; exact OF_nilN _ _, hb⟩
theorem NumsOut.ok {t : ByteArray} {xs : List Nat} {u : Value} {w w' : World} (h : numsOf t = some xs) (ho : OF w.heap.size w' u xs) (hb : Below w.heap.size w w') : NumsOut t w (.returned (.tuple #[u, .bool true])) w' :=
  ⟨_, by rw [h]; rfl, by rw [h]; exact ho, hb⟩
set_option maxHeartbeats 1000000 in
theorem i_partsOrNone (t : ByteArray) (hs : t.size ≤ 1048577) (w : World) (hg : RG w) : Calls Tryz.prog 35 #[.string t] w fun e w' => ∃ u, e = .returned u ∧ RS w' u (wordsB t) ∧ Below w.heap.size w w' := by
  obtain ⟨M, hm⟩ := hg.len
  have HM := Lib.hid hm
  have HS := Lib.hid hs
  clear hm hg hs
  have hn := none_eq t
  by_cases h : t = noneB
  · have hn' : (t.toList == [110, 111, 110, 101]) = true := by rw [hn]; simpa using h
    have HW : Hid (wordsB t = []) := by show _ = _; unfold wordsB; rw [if_pos h]
    clear hn h
    go_enter Tryz.func35, Tryz.ntmps35
    go_wp2
    go_ret
    exact ⟨_, rfl, by rw [HW.out]; exact ⟨_, _, rfl, by simp, .inl rfl⟩, Below.refl _ _⟩
  · have hn' : (t.toList == [110, 111, 110, 101]) = false := by rw [hn]; simpa using h
    have HW : Hid (wordsB t = cutAll 44 t) := by show _ = _; unfold wordsB; rw [if_neg h]
    have HSP := Lib.hid (splitB_cutAll 44 t ⟨#[44]⟩ rfl)
    have HCL := Lib.hid (countB_len 44 t ⟨#[44]⟩ rfl)
    have HLL := Lib.hid (cutAll_len 44 t).2
    clear hn h
    go_enter Tryz.func35, Tryz.ntmps35
    go_wp2_with fail
    refine (Tryz.strings_Split t ⟨#[44]⟩ M _ (by have := HS.out; omega) HM.out (by decide)).mono ?_
    rintro e' w' ⟨rfl, rfl⟩
    rw [HSP.out, ← HCL.out]
    go_wp2
    go_ret
    exact ⟨_, rfl, by rw [HW.out]; exact RS_topN _ _ rfl _ _ (by have := HLL.out; have := HS.out; omega), (by repeat (first | exact Below.refl _ _ | assumption | refine below_drewN ?_ _ | refine below_alloc (Nat.le_refl _) ?_ _ | (refine Below.setCell ?_ (by first | exact Nat.le_refl _ | (simp; done) | (simp; omega) | omega) _) | (refine below_step (Nat.le_refl _) ?_ (by assumption))))⟩
set_option maxRecDepth 100000 in
set_option maxHeartbeats 1000000 in
theorem i_ReadNumbers (t : ByteArray) (hs : t.size ≤ 1048576) (w : World) (hg : RG w) : Calls Tryz.prog 15 #[.string t] w (NumsOut t w) := by
  have HP := Lib.hid (i_partsOrNone t (by omega) w hg)
  have HG := Lib.hid hg
  have HS := Lib.hid (fun p (hp : p ∈ wordsB t) => Nat.le_trans (wordsB_size hp) hs)
  have HN := Lib.hid (numsOf_words t)
  have HLL : Hid ((wordsB t).length ≤ 1048577) := by show _ ≤ _; have := wordsB_len t; omega
  clear hg hs
  go_enter Tryz.func15, Tryz.ntmps15
  go_wp2_with fail
  refine HP.out.mono ?_
  rintro e' w1 ⟨v, rfl, hR, hb⟩
  generalize wordsB t = ss at *
  obtain ⟨p1, cap1, rfl, hm1, hc1⟩ := hR
  have HB := Lib.hid hb
  have HC1 := Lib.hid hc1
  clear hb hc1 HP
  go_wp2_with fail
  go_loopw [5, 15] (fun o i wr => ∃ (k : Nat) (xs : List Nat), k ≤ ss.length ∧ i = .int .i64 (k : Int) ∧ OF w1.heap.size wr o xs ∧ Hid (wordsOf (ss.take k) = some xs) ∧ Hid (k = 0 ∨ ss.length ≤ 256) ∧ Below w1.heap.size w1 wr) (fun _ i _ => ss.length - (RowKit.intOf i).toNat)
  case atStart => exact ⟨0, [], Nat.zero_le _, rfl, OF_emptyN _ _ _ rfl (Nat.le_refl _) _ rfl, rfl, .inl rfl, below_alloc (Nat.le_refl _) (Below.refl _ _) _⟩
  case round =>
    obtain ⟨k, xs, hk, rfl, ho, hW, hF, hb1⟩ := hrel
    have hb := below_step (Nat.le_refl _) HB.out hb1
    by_cases hlt : k < ss.length
    · obtain ⟨b1, o1, rfl, hcell1⟩ := HC1.out.resolve_left (by omega)
      have g1 : w1.cell? ⟨b1, o1 + k, none⟩ = some (.string ss[k]) := hcell1 k _ (by simp [hlt])
      have g1 := (hb1.cell (p := ⟨b1, o1 + k, none⟩) (block_lt_of_cell g1)).trans g1
      have HRD := Lib.hid (i_readHex ss[k] (by have := HS.out _ (List.getElem_mem hlt); omega) wr (HG.out.below hb))
      have HT := Lib.hid (wordsOf_take ss k hlt)
      have HNW : Hid (wordOf ss[k] = none → numsOf t = none) := fun h => by rw [HN.out]; split; exact wordsOf_none hlt h; rfl
      have HB2 := Lib.hid hb
      have HB3 := Lib.hid hb1
      have HO := Lib.hid ho
      have hxl : Hid (xs.length ≤ 1048577) := by show _ ≤ _; have := wordsOf_length hW.out; rw [List.length_take] at this; have := HLL.out; omega
      clear hcell1 hb hb1 ho
      generalize ss[k] = p at *
      go_wp2_with fail
      refine HRD.out.mono ?_
      rintro e' w2 ⟨⟨x, rfl, hx⟩, hb⟩
      have HB4 := Lib.hid (below_step (Nat.le_refl _) HB2.out hb)
      have HB5 := Lib.hid (below_step (Nat.le_refl _) HB3.out hb)
      have HO2 := Lib.hid (OF_belowN HO.out hb)
      clear hb HRD HB2 HB3 HO
      cases hwo : wordOf p with
      | none =>
        have HNO := Lib.hid (HNW.out hwo)
        rw [hwo] at HT
        clear hx hwo
        go_wp2
        go_ret2
        exact NumsOut.no HNO.out HB4.out
      | some n =>
        have hxn := hx n hwo
        subst hxn
        rw [hwo, hW.out] at HT
        have HT2 : Hid (wordsOf (ss.take (k + 1)) = some (xs ++ [x])) := HT.out
        clear hx hwo HT
        by_cases hfew : ss.length ≤ 256
        · have q0 : ¬ (256 : Int) < (ss.length : Int) := by omega
          have HFEW := Lib.hid hfew
          clear hfew
          have HO3 := Lib.hid (OF_belowN HO2.out (below_alloc (Nat.le_refl _) (Below.refl _ _) (.cells #[.float .f32 x] 22)))
          go_wp2_with (at_builtin; refine wpList_appN w1.heap.size xs x rfl rfl rfl rfl HO3.out (cellS_top1 _ _ rfl _ _) hxl.out (by rw [World.size_alloc]; have := HB5.out.size; omega) ?_; intro u w3 h1 h2)
          have H1 := Lib.hid h1
          have H2 := Lib.hid h2
          clear h1 h2
          go_roundw
          case rel => exact ⟨k + 1, xs ++ [x], by omega, by go_num, H1.out, HT2.out, .inr HFEW.out, Below.trans (below_alloc (Nat.le_refl _) HB5.out _) H2.out⟩
          case measure => simp [RowKit.intOf]; omega
        · have q0 : (256 : Int) < (ss.length : Int) := by omega
          have HNO : Hid (numsOf t = none) := by show _ = _; rw [HN.out, if_neg hfew]
          clear hfew
          go_wp2
          go_ret2
          exact NumsOut.no HNO.out HB4.out
    · obtain rfl : k = ss.length := by omega
      have HY : Hid (numsOf t = some xs) := by
        show _ = _
        rw [HN.out, if_pos (by rcases hF.out with h | h <;> omega)]
        have h := hW.out
        rwa [List.take_length] at h
      have HO := Lib.hid ho
      have HB2 := Lib.hid hb
      clear ho hb hb1
      go_wp2
      go_ret2
      exact NumsOut.ok HY.out (OF_leN HO.out HB.out.size) HB2.out
end Go.Proofs.YtpkkgfjjnggijaaGreatDoor
