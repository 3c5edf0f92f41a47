/- Walks: check numbers, digits. -/
import Derived.Test.YtfhmlhocaldioaaDoorTC
import Derived.Test.YtfhmlhocaldioaaDoorTD
import Derived.Laws.IdiomStrings
import Derived.Lib.QuietBelow
import Derived.Lib.AppendIntMem
namespace Go.Proofs.YtfhmlhocaldioaaDoor
set_option linter.unusedSimpArgs false
set_option linter.unusedVariables false
open Go.RowKit Go.Fl Go.Tx Go.Lib
set_option maxHeartbeats 400000 in
theorem s_l01Check (s : ByteArray) (n : Int) (w : World) (h0 : 0 ≤ n) (h1 : n ≤ 65002) (hs : s.size ≤ 1048576) : Calls Tryd.prog 28 #[.int .i64 n, .string s] w fun e w' => e = .returned (.int .i64 (chk n s)) ∧ ∃ n, w' = w.drewN n := by
  go_enter Tryd.func28, Tryd.ntmps28
  go_wp2_with fail
  go_loopw [0, 5] (fun t i wr => ∃ k m : Nat, k ≤ s.size ∧ i = .int .i64 k ∧ t = .int .i64 (chkTo n s k) ∧ wr = w.drewN m) (fun _ i _ => s.size - (RowKit.intOf i).toNat)
  case atStart => exact ⟨0, 0, Nat.zero_le _, rfl, rfl, rfl⟩
  case round =>
    obtain ⟨k, m, hk, rfl, rfl, rfl⟩ := hrel
    by_cases hlt : k < s.size
    · have hb := chkTo_bound n s h0 h1 k
      have hT := Lib.hid (chkTo_succ n s k hlt)
      have hu : s[k].toNat < 256 := s[k].toNat_lt
      generalize chkTo n s k = c at *
      go_wp2
      go_roundw
      case rel => exact ⟨k + 1, _, by omega, by go_num, by rw [hT.out], rfl⟩
      case measure => simp [RowKit.intOf]; omega
    · obtain rfl : k = s.size := by omega
      go_wp2
      go_ret
      exact ⟨rfl, _, rfl⟩
set_option maxHeartbeats 400000 in
theorem i_within (n a b : Int) (w : World) : Calls Tryd.prog 36 #[.int .i64 n, .int .i64 a, .int .i64 b] w fun e w' => e = .returned (.bool (decide (a ≤ n) && decide (n ≤ b))) ∧ ∃ n, w' = w.drewN n := by
  by_cases ha : a ≤ n
  all_goals
    go_enter Tryd.func36, Tryd.ntmps36
    go_wp2
    go_ret
    exact ⟨by simp [ha] <;> omega, 0, rfl⟩
set_option maxHeartbeats 400000 in
theorem i_CheckOf (s : ByteArray) (n : Int) (w : World) (h0 : 0 ≤ n) (h1 : n ≤ 65002) (hs : s.size ≤ 1048576) : Calls Tryd.prog 30 #[.int .i64 n, .string s] w fun e w' => e = .returned (.tuple #[.int .i64 (chk n s), .bool true]) ∧ ∃ n, w' = w.drewN n := by
  have hin : (decide (0 ≤ n) && decide (n ≤ 65002)) = true := by simp; omega
  go_enter Tryd.func30, Tryd.ntmps30
  go_wp2_with fail
  refine (i_within _ _ _ _).mono ?_
  rintro e w' ⟨rfl, m0, rfl⟩
  rw [hin]
  go_wp2_with fail
  go_loopw [0, 12] (fun t i wr => ∃ k m : Nat, k ≤ s.size ∧ i = .int .i64 k ∧ t = .int .i64 (chkTo n s k) ∧ wr = w.drewN m) (fun _ i _ => s.size - (RowKit.intOf i).toNat)
  case atStart => exact ⟨0, _, Nat.zero_le _, rfl, rfl, rfl⟩
  case round =>
    obtain ⟨k, m, hk, rfl, rfl, rfl⟩ := hrel
    by_cases hlt : k < s.size
    · have hb := chkTo_bound n s h0 h1 k
      have hT := Lib.hid (chkTo_succ n s k hlt)
      have hu : s[k].toNat < 256 := s[k].toNat_lt
      generalize chkTo n s k = c at *
      go_wp2
      go_roundw
      case rel => exact ⟨k + 1, _, by omega, by go_num, by rw [hT.out], rfl⟩
      case measure => simp [RowKit.intOf]; omega
    · obtain rfl : k = s.size := by omega
      go_wp2
      go_ret2
      exact ⟨rfl, _, rfl⟩
/-- A slice of bytes that is the call's own, and not nil. -/
def OY (B : Nat) (w : World) (v : Value) (ds : List UInt8) : Prop := w.ownsRow B 5 1 v ds.length (ds.map fun b => Value.int .u8 (b.toNat : Int)) ∧ v ≠ .slice none 0 0
theorem OY_below {B : Nat} {w w' : World} {v : Value} {ds : List UInt8} (h : OY B w v ds) (hb : Below w.heap.size w w') : OY B w' v ds := ⟨ownS_below h.1 hb, h.2⟩
theorem OY_empty (B : Nat) (w : World) (k : Nat) (hk : k = w.heap.size) (hB : B ≤ w.heap.size) (t : TypeId) (ht : t = 5) : OY B (w.alloc (.cells #[] t)) (.slice (some ⟨k, 0, none⟩) 0 0) [] := by
  subst hk ht
  exact ⟨World.ownsRow_lit w #[] 0 hB (by unfold maxLen; omega) rfl, by simp⟩
theorem OY_one (B : Nat) (w : World) (k : Nat) (hk : k = w.heap.size) (hB : B ≤ w.heap.size) (t : TypeId) (ht : t = 5) (x : Int) (d : UInt8) (hx : x = (d.toNat : Int)) : OY B (w.alloc (.cells #[.int .u8 x] t)) (.slice (some ⟨k, 0, none⟩) 1 1) [d] := by
  subst hk ht hx
  exact ⟨World.ownsRow_lit w #[.int .u8 (d.toNat : Int)] 1 hB (by unfold maxLen; omega) rfl, by simp⟩
theorem addr_at (g j : Nat) : (⟨g, 0, none⟩ : Addr).add j = ⟨g, j, none⟩ := by
  unfold Addr.add
  by_cases h : j = 0
  · subst h; simp
  · simp [h]
/-- 'append' of a slice of bytes to one byte. -/
theorem wpList_preY {ops : Array Oper} {rest : List Oper} {o : Oper} {a : Act} {Q : Exit → Act → World → Prop} {w : World} (B : Nat) (ds : List UInt8) (d : UInt8) {s x : Operand} {v u : Value} (hgd : o.guard = none)
    (ho : o.op = .call { callee := .builtin .append, args := #[s, x], argTypes := #[55, 55] }) (hs : a.eval s = u) (hx : a.eval x = v)
    (hu : OY B w u [d]) (hown : OY B w v ds) (hl : ds.length ≤ 100) (hB : B ≤ w.heap.size)
    (h : ∀ u' w', OY B w' u' (d :: ds) → Below B w w' → wpList Tryd.prog ops Q rest (a.put o.dst u') w') : wpList Tryd.prog ops Q (o :: rest) a w := by
  have hinfo : (Tryd.prog.info? 5).map (fun i => (i.zero, i.size, i.bytes)) = some (some (.int .u8 0), 1, 1) := by kernel_rfl
  obtain ⟨i, hi, hzz⟩ := Option.map_eq_some_iff.1 hinfo
  simp only [Prod.mk.injEq] at hzz
  obtain ⟨hz, hsz, hby⟩ := hzz
  obtain ⟨hv, hne⟩ := hown
  rcases hv.2 with ⟨h0, _⟩ | ⟨g, cap, cur, rfl, _⟩
  · exact absurd h0 hne
  refine wpList_append_own w hgd s x 55 ho B 5 i (.int .u8 0) 1 1 Tryd.underlying55 hi hz hsz hby rfl (by decide) u 1 _ hs hu.1 ⟨g, 0, none⟩ ds.length cap (ds.map fun b => Value.int .u8 (b.toNat : Int)) hx (by simp) ?_ ?_ (by unfold maxLen; omega) (by omega) hB ?_
  · intro j y hj
    have hjl : j < ds.length := by simpa using (List.getElem?_eq_some_iff.1 hj).1
    have := hv.cellAt j (by omega)
    rw [addr_at]; exact this.trans hj
  · intro y hy
    obtain ⟨b, _, rfl⟩ := List.mem_map.1 hy
    rfl
  · intro v' w' h1 h2 h3
    refine h v' w' ⟨?_, fun h0 => hu.2 (h3.1 h0).1⟩ (grownS_below hu.1 h2 hB (Nat.le_refl _))
    have e : (d :: ds).length = 1 + ds.length := by simp; omega
    rw [e]
    exact h1
theorem OY_string {B : Nat} {w : World} {g cap : Nat} {ds : List UInt8} (h : OY B w (.slice (some ⟨g, 0, none⟩) ds.length cap) ds) : (convert 55 9 (.slice (some ⟨g, 0, none⟩) ds.length cap)).run Tryd.prog w = .ok (.string ⟨ds.toArray⟩) w := by
  refine run_convert_bytes_back w 55 9 5 ⟨g, 0, none⟩ cap ds Tryd.underlying55 Tryd.underlying5 Tryd.underlying9 fun j hj => ?_
  have := h.1.cellAt j (by omega)
  rw [addr_at, this]; simp [hj]
theorem dig_byte (u : Nat) (h : u < 10) : (((UInt8.ofNat (48 + u)).toNat : Nat) : Int) = 48 + (u : Int) := by
  have : (UInt8.ofNat (48 + u)).toNat = 48 + u := by simp; omega
  rw [this]; simp
set_option maxHeartbeats 1000000 in
theorem s_l01Dec (n : Int) (w : World) (h0 : 0 ≤ n) (h1 : n ≤ 65002) : Calls Tryd.prog 29 #[.int .i64 n] w fun e w' => e = .returned (.string (decB n)) ∧ Below w.heap.size w w' := by
  obtain ⟨N, rfl⟩ : ∃ N : Nat, n = N := ⟨n.toNat, by omega⟩
  have hnd : nDigits N ≤ 20 := nDigits_le20 N (by omega)
  go_enter Tryd.func29, Tryd.ntmps29
  go_wp2_with fail
  go_loopw [3, 4] (fun t i wr => ∃ (u : Nat) (ds : List UInt8), u ≤ N ∧ DigAt N u ds ∧ i = .int .i64 u ∧ OY w.heap.size wr t ds ∧ Below w.heap.size w wr) (fun t i _ => 2 * (RowKit.intOf i).toNat + (match t with | .slice _ 0 _ => 1 | _ => 0))
  case atStart => exact ⟨N, [], Nat.le_refl _, .inl ⟨rfl, rfl⟩, rfl, OY_empty _ _ _ (by simp) (by simp) _ rfl, (by repeat (first | exact Below.refl _ _ | assumption | refine below_drewN ?_ _ | refine below_alloc (Nat.le_refl _) ?_ _ | (refine Below.setCell ?_ (by first | exact Nat.le_refl _ | (simp; done) | (simp; omega) | omega) _) | (refine below_step (Nat.le_refl _) ?_ (by assumption))))⟩
  case round =>
    obtain ⟨u, ds, hu, hd, rfl, hown, hb⟩ := hrel
    have hle := hd.le
    rcases hown.1.2 with ⟨hx, _⟩ | ⟨g, cap, cur, rfl, hBg, hg, hnc, hcm, hcs, htk⟩
    · exact absurd hx hown.2
    have HD := Lib.hid hd
    have HO := Lib.hid hown
    have HB := Lib.hid hb
    clear hd hown hb hg hcs htk hcm hBg
    have hz := dig_byte (u % 10) (by omega)
    have go : ∀ hgo : ds = [] ∨ u ≠ 0, Hid (DigAt N (u / 10) (UInt8.ofNat (48 + u % 10) :: ds)) := fun hgo => HD.out.step hgo
    generalize UInt8.ofNat (48 + u % 10) = d at hz go
    by_cases hds : ds = []
    · have hl0 : ds.length = 0 := by rw [hds]; rfl
      have HS := go (.inl hds)
      clear go
      have hq : ds.length ≤ 100 := by omega
      go_wp2_with (at_builtin; refine wpList_preY w.heap.size ds d rfl rfl rfl rfl ?_ ?_ hq ?_ ?_)
      case _ => exact OY_one _ _ _ rfl HB.out.size _ rfl _ _ (by rw [hz]; go_num)
      case _ => exact OY_below HO.out (by repeat (first | exact Below.refl _ _ | assumption | refine below_drewN ?_ _ | refine below_alloc (Nat.le_refl _) ?_ _ | (refine Below.setCell ?_ (by first | exact Nat.le_refl _ | (simp; done) | (simp; omega) | omega) _) | (refine below_step (Nat.le_refl _) ?_ (by assumption))))
      case _ => have := HB.out.size; simp; omega
      intro u' w1 h1 h2
      have H1 := Lib.hid h1
      have H2 := Lib.hid h2
      clear h1 h2
      go_wp2
      go_roundw
      case rel => exact ⟨u / 10, _, by omega, HS.out, by go_num, by rw [hds]; exact H1.out, by have hb := HB.out; exact Below.trans (by repeat (first | exact Below.refl _ _ | assumption | refine below_drewN ?_ _ | refine below_alloc (Nat.le_refl _) ?_ _ | (refine Below.setCell ?_ (by first | exact Nat.le_refl _ | (simp; done) | (simp; omega) | omega) _) | (refine below_step (Nat.le_refl _) ?_ (by assumption)))) H2.out⟩
      case measure =>
        obtain ⟨p1, p2⟩ := H1.out
        rcases p1.2 with ⟨hx, _⟩ | ⟨g', cap', cur', rfl, _⟩
        · exact absurd hx p2
        · simp [RowKit.intOf, hl0]; omega
    · have hl0 : ds.length ≠ 0 := by intro h; exact hds (List.eq_nil_of_length_eq_zero h)
      have hl1 : ((ds.length : Int) == 0) = false := by simp; exact hds
      by_cases hu0 : u = 0
      · have hsz := OY_string HO.out
        have HE := Lib.hid (HD.out.done hds hu0)
        subst hu0
        clear go hz
        go_wp2
        go_ret
        have e : (⟨ds.toArray⟩ : ByteArray) = decB (N : Int) := by unfold decB; rw [itoa_nonneg, ← HE.out]
        exact ⟨by rw [← e]; rfl, HB.out⟩
      have hu1 : ((u : Int) == 0) = false := by simp; exact hu0
      have HS := go (.inr hu0)
      clear go
      have hq : ds.length ≤ 100 := by omega
      go_wp2_with (at_builtin; refine wpList_preY w.heap.size ds d rfl rfl rfl rfl ?_ ?_ hq ?_ ?_)
      case _ => exact OY_one _ _ _ rfl HB.out.size _ rfl _ _ (by rw [hz]; go_num)
      case _ => exact OY_below HO.out (by repeat (first | exact Below.refl _ _ | assumption | refine below_drewN ?_ _ | refine below_alloc (Nat.le_refl _) ?_ _ | (refine Below.setCell ?_ (by first | exact Nat.le_refl _ | (simp; done) | (simp; omega) | omega) _) | (refine below_step (Nat.le_refl _) ?_ (by assumption))))
      case _ => have := HB.out.size; simp; omega
      intro u' w1 h1 h2
      have H1 := Lib.hid h1
      have H2 := Lib.hid h2
      clear h1 h2
      go_wp2
      go_roundw
      case rel => exact ⟨u / 10, _, by omega, HS.out, by go_num, H1.out, by have hb := HB.out; exact Below.trans (by repeat (first | exact Below.refl _ _ | assumption | refine below_drewN ?_ _ | refine below_alloc (Nat.le_refl _) ?_ _ | (refine Below.setCell ?_ (by first | exact Nat.le_refl _ | (simp; done) | (simp; omega) | omega) _) | (refine below_step (Nat.le_refl _) ?_ (by assumption)))) H2.out⟩
      case measure =>
        obtain ⟨p1, p2⟩ := H1.out
        rcases p1.2 with ⟨hx, _⟩ | ⟨g', cap', cur', rfl, _⟩
        · exact absurd hx p2
        · simp [RowKit.intOf]; omega
/-- The table of ten's powers, which the library's words look up. -/
def TabP (w : World) : Prop := Lib.TabIs Tryd.prog w "internal/strconv.uint64pow10" .u64 Lib.pow10Tab
theorem TabP_below {w w' : World} (h : TabP w) (hb : Below w.heap.size w w') : TabP w' := (tabBelow_of_tabIs h).on hb |>.here
theorem i_Decimal (n : Int) (w : World) (h0 : 0 ≤ n) (h1 : n ≤ 65002) (ht : TabP w) : Calls Tryd.prog 31 #[.int .i64 n] w fun e w' => e = .returned (.string (decB n)) ∧ Below w.heap.size w w' := by
  have HT := Lib.hid ht
  clear ht
  go_enter Tryd.func31, Tryd.ntmps31
  go_wp2_with fail
  refine (Tryd.strconv_FormatInt_10 n (by omega) (by omega) _ HT.out).mono ?_
  rintro e w' ⟨rfl, k, os, rfl⟩
  go_wp2
  go_ret
  exact ⟨rfl, below_regrown _ _ _⟩
theorem i_journalLine (s : ByteArray) (n : Int) (w : World) (h0 : 0 ≤ n) (h1 : n ≤ 65002) (hs : s.size ≤ 1048576) (ht : TabP w) :
    Calls Tryd.prog 20 #[.int .i64 n, .string s] w fun e w' => e = .returned (.tuple #[.string (jLine n s), .int .i64 (chk n s)]) ∧ Below w.heap.size w w' := by
  have HT := Lib.hid ht
  clear ht
  obtain ⟨c0, c1⟩ := chk_bound n s h0 h1
  have hds := decB_size (chk n s) c0 c1
  go_enter Tryd.func20, Tryd.ntmps20
  go_wp2_with fail
  refine (i_CheckOf s n _ h0 h1 hs).mono ?_
  rintro e w' ⟨rfl, m0, rfl⟩
  go_wp2_with fail
  refine (i_Decimal (chk n s) _ c0 c1 (TabP_below HT.out (below_drewN (Below.refl _ _) _))).mono ?_
  rintro e w' ⟨rfl, hb⟩
  go_wp2
  go_ret2
  exact ⟨rfl, (by repeat (first | exact Below.refl _ _ | assumption | refine below_drewN ?_ _ | refine below_alloc (Nat.le_refl _) ?_ _ | (refine Below.setCell ?_ (by first | exact Nat.le_refl _ | (simp; done) | (simp; omega) | omega) _) | (refine below_step (Nat.le_refl _) ?_ (by assumption))))⟩
end Go.Proofs.YtfhmlhocaldioaaDoor
