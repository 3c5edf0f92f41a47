/- Walks: texts cut into lines. -/
import Derived.Test.YtpkkgfjjnggijaaGreatDoorA
import Derived.Test.YtpkkgfjjnggijaaGreatDoorTA
import Derived.Deep.OwnRows
namespace Go.Proofs.YtpkkgfjjnggijaaGreatDoor
set_option linter.unusedSimpArgs false
set_option linter.unusedVariables false
open Go.RowKit Go.Fl Go.Tx Go.Lib

/-- A slice of texts. -/
def RS (w : World) (v : Value) (ss : List ByteArray) : Prop := Sl w v ss.length (ss.map Value.string)
def OS (B : Nat) (w : World) (v : Value) (ss : List ByteArray) : Prop := w.ownsRow B 9 1 v ss.length (ss.map Value.string)
theorem ownS_below {B : Nat} {w w' : World} {v : Value} {n : Nat} {cs : List Value} {e : TypeId} {size : Nat} (h : w.ownsRow B e size v n cs) (hb : Below w.heap.size w w') : w'.ownsRow B e size v n cs := by
  obtain ⟨hlen, h⟩ := h
  refine ⟨hlen, ?_⟩
  rcases h with h | ⟨g, cap, cur, rfl, hB, hg, rest⟩
  · exact .inl h
  · exact .inr ⟨g, cap, cur, rfl, hB, (hb.block g (lt_of_block hg)).trans hg, rest⟩
theorem SlS_of_own {B : Nat} {w : World} {v : Value} {n : Nat} {cs : List Value} {e : TypeId} {size : Nat} (h : w.ownsRow B e size v n cs) (hn : n ≤ 281474976710656) : Sl w v n cs := by
  obtain ⟨hlen, h⟩ := h
  rcases h with ⟨rfl, rfl⟩ | ⟨g, cap, cur, rfl, hb, hg, hnc, hcm, hcs, htake⟩
  · exact ⟨_, _, rfl, hn, .inl rfl⟩
  · refine ⟨_, _, rfl, hn, .inr ⟨g, 0, rfl, fun j u hj => ?_⟩⟩
    rw [Nat.zero_add, cell_of_row w g j cur e (0, 0) hg]
    rw [← htake, List.getElem?_take] at hj
    split at hj
    · simpa using hj
    · cases hj
theorem grownS_below {B : Nat} {w w' : World} {u : Value} {n : Nat} {cs : List Value} {e : TypeId} {s S : Nat} (h : w.ownsRow S e s u n cs) (hg : w.grownBy w' u.ownBlock) (hB : B ≤ w.heap.size) (hS : B ≤ S) : Below B w w' :=
  (Below.refl B w).grown hg hB fun k hk => Nat.le_trans hS (h.lt k hk).1
theorem OS_below {B : Nat} {w w' : World} {v : Value} {ss : List ByteArray} (h : OS B w v ss) (hb : Below w.heap.size w w') : OS B w' v ss := ownS_below h hb
theorem RS_of_own {B : Nat} {w : World} {v : Value} {ss : List ByteArray} (h : OS B w v ss) (hn : ss.length ≤ 281474976710656) : RS w v ss := SlS_of_own h hn
theorem SlS_below {w w' : World} {v : Value} {n : Nat} {cs : List Value} (h : Sl w v n cs) (hb : Below w.heap.size w w') : Sl w' v n cs := by
  obtain ⟨p, cap, rfl, hm, hc⟩ := h
  refine ⟨p, cap, rfl, hm, ?_⟩
  rcases hc with h0 | ⟨b, off, rfl, hc⟩
  · exact .inl h0
  · refine .inr ⟨b, off, rfl, fun j u hj => ?_⟩
    have h1 := hc j u hj
    exact (hb.cell (p := ⟨b, off + j, none⟩) (block_lt_of_cell h1)).trans h1
theorem RS_below {w w' : World} {v : Value} {ss : List ByteArray} (h : RS w v ss) (hb : Below w.heap.size w w') : RS w' v ss := SlS_below h hb
theorem OS_nil (B : Nat) (w : World) : OS B w (.slice none 0 0) [] := World.ownsRow_nil _ _ _ _
theorem OS_empty (B : Nat) (w : World) (k : Nat) (hk : k = w.heap.size) (hB : B ≤ w.heap.size) (t : TypeId) (ht : t = 9) : OS B (w.alloc (.cells #[] t)) (.slice (some ⟨k, 0, none⟩) 0 0) [] := by
  subst hk ht
  exact World.ownsRow_lit w #[] 0 hB (by unfold maxLen; omega) rfl
theorem cellS_top1 (w : World) (k : Nat) (hk : k = w.heap.size) (v : Value) (t : TypeId) : (w.alloc (.cells #[v] t)).cell? ⟨k, 0, none⟩ = some v := by
  subst hk
  rw [cell_of_row _ _ _ _ t (0, 0) (heap_alloc_new w _)]; rfl
/-- 'append' of one text to a slice of the call's own. -/
theorem wpList_appS {ops : Array Oper} {rest : List Oper} {o : Oper} {a : Act} {Q : Exit → Act → World → Prop} {w : World} (B : Nat) (xs : List ByteArray) (r : ByteArray) {s x : Operand} {v : Value} {g : Nat} (hgd : o.guard = none)
    (ho : o.op = .call { callee := .builtin .append, args := #[s, x], argTypes := #[41, 41] }) (hs : a.eval s = v) (hx : a.eval x = .slice (some ⟨g, 0, none⟩) 1 1)
    (hown : OS B w v xs) (hcell : w.cell? ⟨g, 0, none⟩ = some (.string r)) (hl : xs.length ≤ 1048577) (hB : B ≤ w.heap.size)
    (h : ∀ u w', OS B w' u (xs ++ [r]) → Below B w w' → wpList Tryz.prog ops Q rest (a.put o.dst u) w') : wpList Tryz.prog ops Q (o :: rest) a w := by
  have hinfo : (Tryz.prog.info? 9).map (fun i => (i.zero, i.size, i.bytes)) = some (some (.string ByteArray.empty), 1, 16) := by kernel_rfl
  obtain ⟨i, hi, hzz⟩ := Option.map_eq_some_iff.1 hinfo
  simp only [Prod.mk.injEq] at hzz
  obtain ⟨hz, hsz, hby⟩ := hzz
  refine wpList_append_own w hgd s x 41 ho B 9 i (.string ByteArray.empty) 1 16 Tryz.underlying41 hi hz hsz hby rfl (by decide) v xs.length _ hs hown ⟨g, 0, none⟩ 1 1 [.string r] hx rfl ?_ ?_ (by unfold maxLen; omega) (by omega) hB ?_
  · intro j u hj
    match j, hj with
    | 0, hj => simp at hj; subst hj; simpa [Addr.add] using hcell
  · intro u hu; simp at hu; subst hu; rfl
  · intro v' w' h1 h2 _
    refine h v' w' ?_ (grownS_below hown h2 hB (Nat.le_refl _))
    show w'.ownsRow _ _ _ _ _ _
    simpa using h1
theorem quietS_below {w w' : World} (h : ∃ n, w' = w.drewN n) : Below w.heap.size w w' := by
  obtain ⟨n, rfl⟩ := h
  exact below_drewN (Below.refl _ _) n
theorem byte_at (s : ByteArray) (k : Nat) (h : k < s.size) : s.data.toList[k]? = some s[k] := data_getElem? s k h
theorem byte_eq (x c : UInt8) : (((x.toNat : Nat) : Int) == ((c.toNat : Nat) : Int)) = decide (x = c) := by
  rw [Bool.eq_iff_iff]
  simp only [beq_iff_eq, decide_eq_true_eq]
  constructor
  · intro h; exact UInt8.toNat_inj.1 (Int.ofNat_inj.1 h)
  · intro h; rw [h]
set_option maxHeartbeats 1000000 in
theorem s_l01Cut (s : ByteArray) (c : UInt8) (C : Int) (hC : C = ((c.toNat : Nat) : Int)) (w : World) (hs : s.size ≤ 1048576) :
    Calls Tryz.prog 30 #[.string s, .int .u8 C] w fun e w' => ∃ u, e = .returned u ∧ OS w.heap.size w' u (cutAll c s) ∧ Below w.heap.size w w' := by
  have HC := Lib.hid hC
  clear hC
  go_enter Tryz.func30, Tryz.ntmps30
  go_wp2_with fail
  go_loopw [5, 6, 7] (fun t f i wr => ∃ k : Nat, k ≤ s.size + 1 ∧ i = .int .i64 k ∧ f = .int .i64 ((cutTo c s k).2 : Nat) ∧ OS w.heap.size wr t (cutTo c s k).1 ∧ Below w.heap.size w wr) (fun _ _ i _ => s.size + 1 - (intOf i).toNat)
  case atStart => exact ⟨0, Nat.zero_le _, rfl, rfl, OS_empty _ _ _ (by simp) (by simp) _ rfl, (by repeat (first | exact Below.refl _ _ | assumption | refine below_drewN ?_ _ | refine below_alloc (Nat.le_refl _) ?_ _ | (refine Below.setCell ?_ (by first | exact Nat.le_refl _ | (simp; done) | (simp; omega) | omega) _) | (refine below_step (Nat.le_refl _) ?_ (by assumption))))⟩
  case round =>
    obtain ⟨k, hk, rfl, rfl, hown, hb⟩ := hrel
    have HO := Lib.hid hown
    have HB := Lib.hid hb
    obtain ⟨hl1, hl2⟩ := cutTo_len c s k
    clear hown hb
    have hT : Hid (cutTo c s (k + 1) = if k = s.size ∨ s.data.toList[k]? = some c then ((cutTo c s k).1 ++ [s.extract (cutTo c s k).2 k], k + 1) else cutTo c s k) := rfl
    by_cases hlt : k < s.size
    · have hne : ((k : Int) == (s.size : Int)) = false := by simp; omega
      have hcmp : (((s[k].toNat : Nat) : Int) == C) = decide (s[k] = c) := by rw [HC.out]; exact byte_eq _ _
      by_cases hc : s[k] = c
      · have hT' : Hid (cutTo c s (k + 1) = ((cutTo c s k).1 ++ [s.extract (cutTo c s k).2 k], k + 1)) := by show _ = _; rw [hT.out, if_pos (.inr (by rw [byte_at s k hlt, hc]))]
        have hcmp' : (((s[k].toNat : Nat) : Int) == C) = true := by rw [hcmp]; simpa using hc
        clear hcmp hT hc
        generalize (cutTo c s k).1 = zs at *
        generalize (cutTo c s k).2 = f at *
        go_wp2_with (at_builtin; refine wpList_appS w.heap.size zs (s.extract f k) rfl rfl rfl rfl ?_ ?_ (by omega) ?_ ?_)
        case _ => exact OS_below HO.out (by repeat (first | exact Below.refl _ _ | assumption | refine below_drewN ?_ _ | refine below_alloc (Nat.le_refl _) ?_ _ | (refine Below.setCell ?_ (by first | exact Nat.le_refl _ | (simp; done) | (simp; omega) | omega) _) | (refine below_step (Nat.le_refl _) ?_ (by assumption))))
        case _ => exact cellS_top1 _ _ (by simp) _ _
        case _ => have := HB.out.size; simp; omega
        intro u w1 h1 h2
        have H1 := Lib.hid h1
        have H2 := Lib.hid h2
        clear h1 h2
        go_wp2
        go_roundw
        case rel => exact ⟨k + 1, by omega, by go_num, by rw [hT'.out]; go_num, by rw [hT'.out]; exact H1.out, by have hb := HB.out; exact Below.trans (by repeat (first | exact Below.refl _ _ | assumption | refine below_drewN ?_ _ | refine below_alloc (Nat.le_refl _) ?_ _ | (refine Below.setCell ?_ (by first | exact Nat.le_refl _ | (simp; done) | (simp; omega) | omega) _) | (refine below_step (Nat.le_refl _) ?_ (by assumption)))) H2.out⟩
        case measure => simp [intOf]; omega
      · have hT' : Hid (cutTo c s (k + 1) = cutTo c s k) := by
          show _ = _
          rw [hT.out, if_neg]
          rintro (h | h)
          · omega
          · rw [byte_at s k hlt] at h
            exact hc (by simpa using h)
        have hcmp' : (((s[k].toNat : Nat) : Int) == C) = false := by rw [hcmp]; simpa using hc
        clear hcmp hT hc
        go_wp2
        go_roundw
        case rel => exact ⟨k + 1, by omega, by go_num, by rw [hT'.out], by rw [hT'.out]; exact HO.out, HB.out⟩
        case measure => simp [intOf]; omega
    · by_cases hk1 : k = s.size
      · have hT' : Hid (cutTo c s (k + 1) = ((cutTo c s k).1 ++ [s.extract (cutTo c s k).2 k], k + 1)) := by show _ = _; rw [hT.out, if_pos (.inl hk1)]
        have hne : ((k : Int) == (s.size : Int)) = true := by simp; omega
        clear hT
        have HK1 := Lib.hid hk1
        clear hk1 hlt
        have hle : k ≤ s.size := by have := HK1.out; omega
        generalize (cutTo c s k).1 = zs at *
        generalize (cutTo c s k).2 = f at *
        go_wp2_with (at_builtin; refine wpList_appS w.heap.size zs (s.extract f k) rfl rfl rfl rfl ?_ ?_ (by omega) ?_ ?_)
        case _ => exact OS_below HO.out (by repeat (first | exact Below.refl _ _ | assumption | refine below_drewN ?_ _ | refine below_alloc (Nat.le_refl _) ?_ _ | (refine Below.setCell ?_ (by first | exact Nat.le_refl _ | (simp; done) | (simp; omega) | omega) _) | (refine below_step (Nat.le_refl _) ?_ (by assumption))))
        case _ => exact cellS_top1 _ _ (by simp) _ _
        case _ => have := HB.out.size; simp; omega
        intro u w1 h1 h2
        have H1 := Lib.hid h1
        have H2 := Lib.hid h2
        clear h1 h2
        go_wp2
        go_roundw
        case rel => exact ⟨k + 1, by have := HK1.out; omega, by go_num, by rw [hT'.out]; go_num, by rw [hT'.out]; exact H1.out, by have hb := HB.out; exact Below.trans (by repeat (first | exact Below.refl _ _ | assumption | refine below_drewN ?_ _ | refine below_alloc (Nat.le_refl _) ?_ _ | (refine Below.setCell ?_ (by first | exact Nat.le_refl _ | (simp; done) | (simp; omega) | omega) _) | (refine below_step (Nat.le_refl _) ?_ (by assumption)))) H2.out⟩
        case measure => have := HK1.out; simp [intOf]; omega
      · obtain rfl : k = s.size + 1 := by omega
        clear hT hk1
        go_wp2
        go_ret
        exact ⟨_, rfl, HO.out, HB.out⟩
end Go.Proofs.YtpkkgfjjnggijaaGreatDoor
