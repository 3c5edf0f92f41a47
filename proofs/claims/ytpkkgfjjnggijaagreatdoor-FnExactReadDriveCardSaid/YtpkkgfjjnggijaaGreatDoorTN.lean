/- Walks: decimal digits, the reference's. -/
import Derived.Test.YtpkkgfjjnggijaaGreatDoorTB
import Derived.Lib.ItoaLen
import Derived.Laws.IdiomStrings
import Derived.Lib.QuietBelow
import Derived.Lib.AppendIntMem
namespace Go.Proofs.YtpkkgfjjnggijaaGreatDoor
set_option linter.unusedSimpArgs false
set_option linter.unusedVariables false
open Go.RowKit Go.Fl Go.Tx Go.Lib
def DigAt (n u : Nat) (ds : List UInt8) : Prop := (ds = [] ∧ u = n) ∨ (ds ≠ [] ∧ u = 0 ∧ decDigits n = ds) ∨ (ds ≠ [] ∧ u ≠ 0 ∧ decDigits n = decDigits u ++ ds)
theorem DigAt.step {n u : Nat} {ds : List UInt8} (h : DigAt n u ds) (hgo : ds = [] ∨ u ≠ 0) : DigAt n (u / 10) (UInt8.ofNat (48 + u % 10) :: ds) := by
  have key : decDigits n = decDigits u ++ ds := by
    rcases h with ⟨rfl, rfl⟩ | ⟨h1, rfl, h3⟩ | ⟨_, _, h3⟩
    · simp
    · rcases hgo with h | h
      · exact absurd h h1
      · exact absurd rfl h
    · exact h3
  by_cases hu : u < 10
  · right; left
    refine ⟨by simp, by omega, ?_⟩
    rw [key, decDigits_one hu, Nat.mod_eq_of_lt hu]
    rfl
  · right; right
    refine ⟨by simp, by omega, ?_⟩
    rw [key, decDigits, dif_neg hu]
    simp
theorem DigAt.done {n u : Nat} {ds : List UInt8} (h : DigAt n u ds) (h0 : ds ≠ []) (h1 : u = 0) : ds = decDigits n := by
  rcases h with ⟨h, _⟩ | ⟨_, _, h⟩ | ⟨_, h, _⟩
  · exact absurd h h0
  · exact h.symm
  · exact absurd h1 h
theorem DigAt.le {n u : Nat} {ds : List UInt8} (h : DigAt n u ds) : ds.length ≤ nDigits n := by
  rcases h with ⟨rfl, _⟩ | ⟨_, _, h⟩ | ⟨_, _, h⟩
  · simp
  · rw [← decDigits_length, h]; exact Nat.le_refl _
  · rw [← decDigits_length, h]; simp
def decB (n : Int) : ByteArray := ⟨(itoa n).toArray⟩
theorem decB_size (n : Int) (h0 : 0 ≤ n) (h1 : n ≤ 65002) : 1 ≤ (decB n).size ∧ (decB n).size ≤ 21 := by
  have h := itoa_length_le n (by omega) (by omega)
  constructor
  · show 1 ≤ (itoa n).toArray.size
    rw [List.size_toArray]
    obtain ⟨u, rfl⟩ : ∃ u : Nat, n = u := ⟨n.toNat, by omega⟩
    rw [itoa_nonneg, decDigits_length]
    by_cases h : u < 10
    · rw [nDigits_small h]; exact Nat.le_refl _
    · rw [nDigits_big h]; omega
  · show (itoa n).toArray.size ≤ 21
    rw [List.size_toArray]; exact h
/-- A slice of bytes that is the call's own, and not nil. -/
def OY (B : Nat) (w : World) (v : Value) (ds : List UInt8) : Prop := w.ownsRow B 5 1 v ds.length (ds.map fun b => Value.int .u8 (b.toNat : Int)) ∧ v ≠ .slice none 0 0
theorem OY_below {B : Nat} {w w' : World} {v : Value} {ds : List UInt8} (h : OY B w v ds) (hb : Below w.heap.size w w') : OY B w' v ds := ⟨ownS_below h.1 hb, h.2⟩
theorem OY_empty (B : Nat) (w : World) (k : Nat) (hk : k = w.heap.size) (hB : B ≤ w.heap.size) (t : TypeId) (ht : t = 5) : OY B (w.alloc (.cells #[] t)) (.slice (some ⟨k, 0, none⟩) 0 0) [] := by
  subst hk ht
  exact ⟨World.ownsRow_lit w #[] 0 hB (by unfold maxLen; omega) rfl, by simp⟩
theorem OY_one (B : Nat) (w : World) (k : Nat) (hk : k = w.heap.size) (hB : B ≤ w.heap.size) (t : TypeId) (ht : t = 5) (x : Int) (d : UInt8) (hx : x = (d.toNat : Int)) : OY B (w.alloc (.cells #[.int .u8 x] t)) (.slice (some ⟨k, 0, none⟩) 1 1) [d] := by
  subst hk ht hx
  exact ⟨World.ownsRow_lit w #[.int .u8 (d.toNat : Int)] 1 hB (by unfold maxLen; omega) rfl, by simp⟩
theorem addr_at (g j : Nat) : (⟨g, 0, none⟩ : Addr).add j = ⟨g, j, none⟩ := by
  unfold Addr.add
  by_cases h : j = 0
  · subst h; simp
  · simp [h]
/-- 'append' of a slice of bytes to one byte. -/
theorem wpList_preY {ops : Array Oper} {rest : List Oper} {o : Oper} {a : Act} {Q : Exit → Act → World → Prop} {w : World} (B : Nat) (ds : List UInt8) (d : UInt8) {s x : Operand} {v u : Value} (hgd : o.guard = none)
    (ho : o.op = .call { callee := .builtin .append, args := #[s, x], argTypes := #[109, 109] }) (hs : a.eval s = u) (hx : a.eval x = v)
    (hu : OY B w u [d]) (hown : OY B w v ds) (hl : ds.length ≤ 100) (hB : B ≤ w.heap.size)
    (h : ∀ u' w', OY B w' u' (d :: ds) → Below B w w' → wpList Tryz.prog ops Q rest (a.put o.dst u') w') : wpList Tryz.prog ops Q (o :: rest) a w := by
  have hinfo : (Tryz.prog.info? 5).map (fun i => (i.zero, i.size, i.bytes)) = some (some (.int .u8 0), 1, 1) := by kernel_rfl
  obtain ⟨i, hi, hzz⟩ := Option.map_eq_some_iff.1 hinfo
  simp only [Prod.mk.injEq] at hzz
  obtain ⟨hz, hsz, hby⟩ := hzz
  obtain ⟨hv, hne⟩ := hown
  rcases hv.2 with ⟨h0, _⟩ | ⟨g, cap, cur, rfl, _⟩
  · exact absurd h0 hne
  refine wpList_append_own w hgd s x 109 ho B 5 i (.int .u8 0) 1 1 Tryz.underlying109 hi hz hsz hby rfl (by decide) u 1 _ hs hu.1 ⟨g, 0, none⟩ ds.length cap (ds.map fun b => Value.int .u8 (b.toNat : Int)) hx (by simp) ?_ ?_ (by unfold maxLen; omega) (by omega) hB ?_
  · intro j y hj
    have hjl : j < ds.length := by simpa using (List.getElem?_eq_some_iff.1 hj).1
    have := hv.cellAt j (by omega)
    rw [addr_at]; exact this.trans hj
  · intro y hy
    obtain ⟨b, _, rfl⟩ := List.mem_map.1 hy
    rfl
  · intro v' w' h1 h2 h3
    refine h v' w' ⟨?_, fun h0 => hu.2 (h3.1 h0).1⟩ (grownS_below hu.1 h2 hB (Nat.le_refl _))
    have e : (d :: ds).length = 1 + ds.length := by simp; omega
    rw [e]
    exact h1
theorem OY_string {B : Nat} {w : World} {g cap : Nat} {ds : List UInt8} (h : OY B w (.slice (some ⟨g, 0, none⟩) ds.length cap) ds) : (convert 109 9 (.slice (some ⟨g, 0, none⟩) ds.length cap)).run Tryz.prog w = .ok (.string ⟨ds.toArray⟩) w := by
  refine run_convert_bytes_back w 109 9 5 ⟨g, 0, none⟩ cap ds Tryz.underlying109 Tryz.underlying5 Tryz.underlying9 fun j hj => ?_
  have := h.1.cellAt j (by omega)
  rw [addr_at, this]; simp [hj]
theorem dig_byte (u : Nat) (h : u < 10) : (((UInt8.ofNat (48 + u)).toNat : Nat) : Int) = 48 + (u : Int) := by
  have : (UInt8.ofNat (48 + u)).toNat = 48 + u := by simp; omega
  rw [this]; simp
set_option maxRecDepth 100000 in
set_option maxHeartbeats 1000000 in
theorem s_l01Dec (n : Int) (w : World) (h0 : 0 ≤ n) (h1 : n ≤ 65002) : Calls Tryz.prog 54 #[.int .i64 n] w fun e w' => e = .returned (.string (decB n)) ∧ Below w.heap.size w w' := by
  obtain ⟨N, rfl⟩ : ∃ N : Nat, n = N := ⟨n.toNat, by omega⟩
  have hnd : nDigits N ≤ 20 := nDigits_le20 N (by omega)
  go_enter Tryz.func54, Tryz.ntmps54
  go_wp2_with fail
  go_loopw [3, 4] (fun t i wr => ∃ (u : Nat) (ds : List UInt8), u ≤ N ∧ DigAt N u ds ∧ i = .int .i64 u ∧ OY w.heap.size wr t ds ∧ Below w.heap.size w wr) (fun t i _ => 2 * (RowKit.intOf i).toNat + (match t with | .slice _ 0 _ => 1 | _ => 0))
  case atStart => exact ⟨N, [], Nat.le_refl _, .inl ⟨rfl, rfl⟩, rfl, OY_empty _ _ _ (by simp) (by simp) _ rfl, (by repeat (first | exact Below.refl _ _ | assumption | refine below_drewN ?_ _ | refine below_alloc (Nat.le_refl _) ?_ _ | (refine Below.setCell ?_ (by first | exact Nat.le_refl _ | (simp; done) | (simp; omega) | omega) _) | (refine below_step (Nat.le_refl _) ?_ (by assumption))))⟩
  case round =>
    obtain ⟨u, ds, hu, hd, rfl, hown, hb⟩ := hrel
    have hle := hd.le
    rcases hown.1.2 with ⟨hx, _⟩ | ⟨g, cap, cur, rfl, hBg, hg, hnc, hcm, hcs, htk⟩
    · exact absurd hx hown.2
    have HD := Lib.hid hd
    have HO := Lib.hid hown
    have HB := Lib.hid hb
    clear hd hown hb hg hcs htk hcm hBg
    have hz := dig_byte (u % 10) (by omega)
    have go : ∀ hgo : ds = [] ∨ u ≠ 0, Hid (DigAt N (u / 10) (UInt8.ofNat (48 + u % 10) :: ds)) := fun hgo => HD.out.step hgo
    generalize UInt8.ofNat (48 + u % 10) = d at hz go
    by_cases hds : ds = []
    · have hl0 : ds.length = 0 := by rw [hds]; rfl
      have HS := go (.inl hds)
      clear go
      have hq : ds.length ≤ 100 := by omega
      go_wp2_with (at_builtin; refine wpList_preY w.heap.size ds d rfl rfl rfl rfl ?_ ?_ hq ?_ ?_)
      case _ => exact OY_one _ _ _ rfl HB.out.size _ rfl _ _ (by rw [hz]; go_num)
      case _ => exact OY_below HO.out (by repeat (first | exact Below.refl _ _ | assumption | refine below_drewN ?_ _ | refine below_alloc (Nat.le_refl _) ?_ _ | (refine Below.setCell ?_ (by first | exact Nat.le_refl _ | (simp; done) | (simp; omega) | omega) _) | (refine below_step (Nat.le_refl _) ?_ (by assumption))))
      case _ => have := HB.out.size; simp; omega
      intro u' w1 h1 h2
      have H1 := Lib.hid h1
      have H2 := Lib.hid h2
      clear h1 h2
      go_wp2
      go_roundw
      case rel => exact ⟨u / 10, _, by omega, HS.out, by go_num, by rw [hds]; exact H1.out, by have hb := HB.out; exact Below.trans (by repeat (first | exact Below.refl _ _ | assumption | refine below_drewN ?_ _ | refine below_alloc (Nat.le_refl _) ?_ _ | (refine Below.setCell ?_ (by first | exact Nat.le_refl _ | (simp; done) | (simp; omega) | omega) _) | (refine below_step (Nat.le_refl _) ?_ (by assumption)))) H2.out⟩
      case measure =>
        obtain ⟨p1, p2⟩ := H1.out
        rcases p1.2 with ⟨hx, _⟩ | ⟨g', cap', cur', rfl, _⟩
        · exact absurd hx p2
        · simp [RowKit.intOf, hl0]; omega
    · have hl0 : ds.length ≠ 0 := by intro h; exact hds (List.eq_nil_of_length_eq_zero h)
      have hl1 : ((ds.length : Int) == 0) = false := by simp; exact hds
      by_cases hu0 : u = 0
      · have hsz := OY_string HO.out
        have HE := Lib.hid (HD.out.done hds hu0)
        subst hu0
        clear go hz
        go_wp2
        go_ret
        have e : (⟨ds.toArray⟩ : ByteArray) = decB (N : Int) := by unfold decB; rw [itoa_nonneg, ← HE.out]
        exact ⟨by rw [← e]; rfl, HB.out⟩
      have hu1 : ((u : Int) == 0) = false := by simp; exact hu0
      have HS := go (.inr hu0)
      clear go
      have hq : ds.length ≤ 100 := by omega
      go_wp2_with (at_builtin; refine wpList_preY w.heap.size ds d rfl rfl rfl rfl ?_ ?_ hq ?_ ?_)
      case _ => exact OY_one _ _ _ rfl HB.out.size _ rfl _ _ (by rw [hz]; go_num)
      case _ => exact OY_below HO.out (by repeat (first | exact Below.refl _ _ | assumption | refine below_drewN ?_ _ | refine below_alloc (Nat.le_refl _) ?_ _ | (refine Below.setCell ?_ (by first | exact Nat.le_refl _ | (simp; done) | (simp; omega) | omega) _) | (refine below_step (Nat.le_refl _) ?_ (by assumption))))
      case _ => have := HB.out.size; simp; omega
      intro u' w1 h1 h2
      have H1 := Lib.hid h1
      have H2 := Lib.hid h2
      clear h1 h2
      go_wp2
      go_roundw
      case rel => exact ⟨u / 10, _, by omega, HS.out, by go_num, H1.out, by have hb := HB.out; exact Below.trans (by repeat (first | exact Below.refl _ _ | assumption | refine below_drewN ?_ _ | refine below_alloc (Nat.le_refl _) ?_ _ | (refine Below.setCell ?_ (by first | exact Nat.le_refl _ | (simp; done) | (simp; omega) | omega) _) | (refine below_step (Nat.le_refl _) ?_ (by assumption)))) H2.out⟩
      case measure =>
        obtain ⟨p1, p2⟩ := H1.out
        rcases p1.2 with ⟨hx, _⟩ | ⟨g', cap', cur', rfl, _⟩
        · exact absurd hx p2
        · simp [RowKit.intOf]; omega
end Go.Proofs.YtpkkgfjjnggijaaGreatDoor
