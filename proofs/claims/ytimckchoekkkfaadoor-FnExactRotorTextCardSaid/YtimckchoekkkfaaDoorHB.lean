/- Walks: the texts of numbers. -/
import Derived.Test.YtimckchoekkkfaaDoorHA
import Derived.Laws.IdiomStrings
import Derived.Laws.Externs
import Derived.Lib.Join
import Derived.Lib.Repeat
namespace Go.Proofs.YtimckchoekkkfaaDoor
set_option linter.unusedSimpArgs false
set_option linter.unusedVariables false
open Go.RowKit Go.Fl Go.Lib

theorem ne_selfT (x : Nat) : (FloatKind.f32.format.order x x != some .eq) = isNan .f32 x := by
  cases h : isNan .f32 x
  · rw [order_self h]; rfl
  · rw [od_nan_left h]; rfl
theorem cn_lt {x : Nat} (h : x < 4294967296) : cn .f32 x < 4294967296 := by
  unfold cn
  split
  · show 2143289344 < _; omega
  · exact h
theorem cat_mk (a b : List UInt8) : (⟨a.toArray⟩ : ByteArray) ++ ⟨b.toArray⟩ = ⟨(a ++ b).toArray⟩ := by
  apply ByteArray.ext
  simp [ByteArray.data_append]
theorem size_mk (a : List UInt8) : (⟨a.toArray⟩ : ByteArray).size = a.length := by simp [ByteArray.size]
theorem repeat_one (b : UInt8) : ∀ c, repeatL [b] c = List.replicate c b
  | 0 => rfl
  | c + 1 => by show [b] ++ repeatL [b] c = _; rw [repeat_one b c]; rfl
/-- A slice of bytes that is the call's own, and not nil. -/
def OB (B : Nat) (w : World) (v : Value) (ds : List UInt8) : Prop := w.ownsRow B 5 1 v ds.length (ds.map fun b => Value.int .u8 (b.toNat : Int)) ∧ v ≠ .slice none 0 0
theorem OB_below {B : Nat} {w w' : World} {v : Value} {ds : List UInt8} (h : OB B w v ds) (hb : Below w.heap.size w w') : OB B w' v ds := ⟨ownS_below h.1 hb, h.2⟩
theorem OB_empty (B : Nat) (w : World) (k : Nat) (hk : k = w.heap.size) (hB : B ≤ w.heap.size) (t : TypeId) (ht : t = 5) : OB B (w.alloc (.cells #[] t)) (.slice (some ⟨k, 0, none⟩) 0 0) [] := by
  subst hk ht
  exact ⟨World.ownsRow_lit w #[] 0 hB (by unfold maxLen; omega) rfl, by simp⟩
theorem wpList_appB {ops : Array Oper} {rest : List Oper} {o : Oper} {a : Act} {Q : Exit → Act → World → Prop} {w : World} (B : Nat) (ds : List UInt8) (d : UInt8) {s x : Operand} {v : Value} {g : Nat} (hgd : o.guard = none)
    (ho : o.op = .call { callee := .builtin .append, args := #[s, x], argTypes := #[123, 123] }) (hs : a.eval s = v) (hx : a.eval x = .slice (some ⟨g, 0, none⟩) 1 1)
    (hown : OB B w v ds) (hcell : w.cell? ⟨g, 0, none⟩ = some (.int .u8 (d.toNat : Int))) (hl : ds.length ≤ 1000) (hB : B ≤ w.heap.size)
    (h : ∀ u w', OB B w' u (ds ++ [d]) → Below B w w' → wpList Tryd.prog ops Q rest (a.put o.dst u) w') : wpList Tryd.prog ops Q (o :: rest) a w := by
  have hinfo : (Tryd.prog.info? 5).map (fun i => (i.zero, i.size, i.bytes)) = some (some (.int .u8 0), 1, 1) := by kernel_rfl
  obtain ⟨i, hi, hzz⟩ := Option.map_eq_some_iff.1 hinfo
  simp only [Prod.mk.injEq] at hzz
  obtain ⟨hz, hsz, hby⟩ := hzz
  refine wpList_append_own w hgd s x 123 ho B 5 i (.int .u8 0) 1 1 Tryd.underlying123 hi hz hsz hby rfl (by decide) v ds.length _ hs hown.1 ⟨g, 0, none⟩ 1 1 [.int .u8 (d.toNat : Int)] hx rfl ?_ ?_ (by unfold maxLen; omega) (by omega) hB ?_
  · intro j u hj
    match j, hj with
    | 0, hj => simp at hj; subst hj; simpa [Addr.add] using hcell
  · intro u hu; simp at hu; subst hu; rfl
  · intro v' w' h1 h2 h3
    refine h v' w' ⟨?_, fun h0 => hown.2 (h3.1 h0).1⟩ (grownS_below hown.1 h2 hB (Nat.le_refl _))
    show w'.ownsRow _ _ _ _ _ _
    simpa using h1
theorem OB_string {B : Nat} {w : World} {g cap : Nat} {ds : List UInt8} (h : OB B w (.slice (some ⟨g, 0, none⟩) ds.length cap) ds) : (convert 123 9 (.slice (some ⟨g, 0, none⟩) ds.length cap)).run Tryd.prog w = .ok (.string ⟨ds.toArray⟩) w := by
  refine run_convert_bytes_back w 123 9 5 ⟨g, 0, none⟩ cap ds Tryd.underlying123 Tryd.underlying5 Tryd.underlying9 fun j hj => ?_
  have := h.1.cellAt j (by omega)
  rw [Addr.add_lit, Nat.zero_add, this]; simp [hj]
theorem tab16 (d : Nat) (h : d < 16) (h2 : d < ByteArray.size ⟨#[48, 49, 50, 51, 52, 53, 54, 55, 56, 57, 97, 98, 99, 100, 101, 102]⟩) : (⟨#[48, 49, 50, 51, 52, 53, 54, 55, 56, 57, 97, 98, 99, 100, 101, 102]⟩ : ByteArray)[d]'h2 = hexDig d := by
  have H : ∀ (d : Fin 16) (h2 : d.val < ByteArray.size ⟨#[48, 49, 50, 51, 52, 53, 54, 55, 56, 57, 97, 98, 99, 100, 101, 102]⟩), (⟨#[48, 49, 50, 51, 52, 53, 54, 55, 56, 57, 97, 98, 99, 100, 101, 102]⟩ : ByteArray)[d.val]'h2 = hexDig d.val := by decide
  exact H ⟨d, h⟩ h2
/-- The first j digits. -/
def hexTake (m j : Nat) : List UInt8 := (hexLow m 8).take j
theorem hexTake_len (m j : Nat) (h : j ≤ 8) : (hexTake m j).length = j := by unfold hexTake; rw [List.length_take, hexLow_length]; omega
theorem hexTake_succ (m j : Nat) (h : j < 8) : hexTake m (j + 1) = hexTake m j ++ [hexDig (m / 16 ^ (7 - j) % 16)] := by
  unfold hexTake
  have hl : j < (hexLow m 8).length := by rw [hexLow_length]; exact h
  have hg := hexLow_get m 8 (7 - j) (by omega)
  rw [show 8 - 1 - (7 - j) = j by omega, List.getElem?_eq_getElem hl, Option.some.injEq] at hg
  rw [List.take_succ_eq_append_getElem hl, hg]
theorem run_f32bitsT (x : Nat) (w : World) : (callFunc 98 #[.float .f32 x]).run Tryd.prog w = .ok (.value (.int .u32 x)) w := by
  rw [run_callFunc_extern (e := Extern.MathFloatBits.float32bits) Tryd.func98 (by kernel_rfl) (by kernel_rfl) (by kernel_rfl) (by kernel_rfl)]
  rfl
theorem s_l01BitsT (x : Nat) (w : World) (hx : x < 4294967296) : Calls Tryd.prog 90 #[.float .f32 x] w fun e w' => e = .returned (.int .i64 (cn .f32 x : Nat)) ∧ ∃ n, w' = w.drewN n := by
  have h0 := ne_selfT x
  have hw : IntKind.i64.wrap (x : Int) = (x : Int) := by rw [IntKind.wrap_i64]; omega
  have hfb := run_f32bitsT x
  cases h : isNan .f32 x
  all_goals
    rw [h] at h0
    go_enter Tryd.func90, Tryd.ntmps90
    go_wp2
    go_ret
    exact ⟨by unfold cn; rw [h]; rfl, 0, rfl⟩
theorem i_BitsOf (x : Nat) (w : World) (hx : x < 4294967296) : Calls Tryd.prog 91 #[.float .f32 x] w fun e w' => e = .returned (.int .i64 (cn .f32 x : Nat)) ∧ ∃ n, w' = w.drewN n := by
  have h0 := ne_selfT x
  have hw : IntKind.i64.wrap (x : Int) = (x : Int) := by rw [IntKind.wrap_i64]; omega
  have hfb := run_f32bitsT x
  cases h : isNan .f32 x
  all_goals
    rw [h] at h0
    go_enter Tryd.func91, Tryd.ntmps91
    go_wp2
    go_ret
    exact ⟨by unfold cn; rw [h]; rfl, 0, rfl⟩
theorem f_FormatIntI (n : Nat) (hn : n < 4294967296) (w : World) (h : T64 w) : Calls Tryd.prog 85 #[.int .i64 (n : Int), .int .i64 16] w fun e w' =>
    ∃ k, k < 8 ∧ n / 16 ^ k < 16 ∧ e = .returned (.string ⟨(hexLow n (k + 1)).toArray⟩) ∧ Below w.heap.size w w' := by
  have HT := Lib.hid h
  clear h
  have q1 : decide ((n : Int) < 0) = false := by simp
  have q2 : IntKind.u64.wrap (n : Int) = (n : Int) := by rw [IntKind.wrap_u64]; omega
  go_enter Tryd.func85, Tryd.ntmps85
  go_wp2_with (go_at_call 97; refine (f_formatBits n hn _ HT.out).mono ?_; rintro e w' ⟨k, hk, hk2, rfl, hb⟩)
  go_ret
  exact ⟨k, hk, hk2, rfl, hb⟩
theorem f_FormatInt (n : Nat) (hn : n < 4294967296) (w : World) (h : T64 w) : Calls Tryd.prog 71 #[.int .i64 (n : Int), .int .i64 16] w fun e w' =>
    ∃ k, k < 8 ∧ n / 16 ^ k < 16 ∧ e = .returned (.string ⟨(hexLow n (k + 1)).toArray⟩) ∧ Below w.heap.size w w' := by
  have HT := Lib.hid h
  clear h
  go_enter Tryd.func71, Tryd.ntmps71
  go_wp2_with (go_at_call 85; refine (f_FormatIntI n hn _ HT.out).mono ?_; rintro e w' ⟨k, hk, hk2, rfl, hb⟩)
  go_ret
  exact ⟨k, hk, hk2, rfl, hb⟩
theorem i_hexOf (x : Nat) (hx : x < 4294967296) (w : World) (h : T64 w) : Calls Tryd.prog 83 #[.float .f32 x] w fun e w' => e = .returned (.string (hexB x)) ∧ Below w.heap.size w w' := by
  have HT := Lib.hid h
  have HC := Lib.hid (cn_lt hx)
  clear h
  go_enter Tryd.func83, Tryd.ntmps83
  go_wp2_with fail
  refine (i_BitsOf x _ hx).mono ?_
  rintro e w' ⟨rfl, n, rfl⟩
  go_wp2_with fail
  refine (f_FormatInt _ HC.out _ (T64_below HT.out (below_drewN (Below.refl _ _) _))).mono ?_
  rintro e w1 ⟨k, hk, hk2, rfl, hb⟩
  have HK : Hid (cn .f32 x / 16 ^ (k + 1) = 0) := by show _ = _; rw [Nat.pow_succ, ← Nat.div_div_eq_div_mul, Nat.div_eq_of_lt hk2]
  obtain ⟨c, hc⟩ : ∃ c, c = 7 - k := ⟨_, rfl⟩
  have hsz : (⟨(hexLow (cn .f32 x) (k + 1)).toArray⟩ : ByteArray).size = k + 1 := by rw [size_mk, hexLow_length]
  have q1 : IntKind.i64.wrap (8 - ((⟨(hexLow (cn .f32 x) (k + 1)).toArray⟩ : ByteArray).size : Int)) = (c : Int) := by rw [hsz, IntKind.wrap_i64]; omega
  have HB1 := Lib.hid hb
  have HFIN : Hid ((⟨(repeatL [48] c).toArray⟩ : ByteArray) ++ ⟨(hexLow (cn .f32 x) (k + 1)).toArray⟩ = hexB x) := by
    show _ = _
    rw [cat_mk, repeat_one]
    unfold hexB hex8
    have e := hexLow_pad (cn .f32 x) (k + 1) HK.out c
    rw [show k + 1 + c = 8 by omega] at e
    rw [e]
  have hs0 : (⟨(repeatL [48] c).toArray⟩ : ByteArray).size = c := by rw [size_mk, repeat_one]; simp
  have HKC : Hid (k + c = 7) := by show _ = _; omega
  clear hc hb hk hk2 hsz
  have hss : (⟨(hexLow (cn .f32 x) (k + 1)).toArray⟩ : ByteArray).size = k + 1 := by rw [size_mk, hexLow_length]
  generalize (⟨(hexLow (cn .f32 x) (k + 1)).toArray⟩ : ByteArray) = s at *
  have HSS := Lib.hid hss
  clear hss
  have HREP : Hid (∀ W, Calls Tryd.prog 92 #[.string ⟨#[48]⟩, .int .i64 (c : Int)] W fun e w' => e = .returned (.string ⟨(repeatL [48] c).toArray⟩) ∧ Below W.heap.size W w') := fun W =>
    Tryd.strings_Repeat ⟨#[48]⟩ c W (by have := HKC.out; omega) (by have := HKC.out; show 1 * c ≤ _; omega)
  generalize (⟨(repeatL [48] c).toArray⟩ : ByteArray) = t at *
  have q2 : ¬ 9223372036854775807 < t.size + s.size := by have := HSS.out; have := HKC.out; omega
  clear hs0
  go_wp2_with (go_at_call 92; refine (HREP.out _).mono ?_; rintro e w2 ⟨rfl, hb2⟩)
  go_ret
  exact ⟨by rw [← HFIN.out]; rfl, Below.trans (show Below w.heap.size w w1 from below_step (Nat.le_refl _) (below_drewN (Below.refl _ _) _) HB1.out) (hb2.mono (by have := HB1.out.size; simpa using this))⟩
set_option maxHeartbeats 1000000 in
theorem s_l01Hex (x : Nat) (hx : x < 4294967296) (w : World) : Calls Tryd.prog 81 #[.float .f32 x] w fun e w' => e = .returned (.string (hexB x)) ∧ Below w.heap.size w w' := by
  have HC := Lib.hid (cn_lt hx)
  go_enter Tryd.func81, Tryd.ntmps81
  go_wp2_with fail
  refine (s_l01BitsT x _ hx).mono ?_
  rintro e w' ⟨rfl, n, rfl⟩
  have HFIN : Hid (hexB x = ⟨(hexLow (cn .f32 x) 8).toArray⟩) := rfl
  generalize cn .f32 x = m at *
  have HM : Hid (m < 4294967296) := HC.out
  go_wp2_with fail
  have HAND : Hid (∀ C : Nat, bits BinOp.and IntKind.i64 ((m / C : Nat) : Int) 15 = ((m / C % 16 : Nat) : Int)) := fun C => and15 _ (.inr rfl) _ (by have := Nat.div_le_self m C; have := HM.out; omega)
  go_loopw [4, 5] (fun t i wr => ∃ (j : Nat) (K : Int), j ≤ 8 ∧ K = 28 - 4 * (j : Int) ∧ i = .int .i64 K ∧ OB w.heap.size wr t (hexTake m j) ∧ Below w.heap.size w wr) (fun _ i _ => ((RowKit.intOf i) + 4).toNat)
  case atStart => exact ⟨0, 28, by omega, by simp, rfl, OB_empty _ _ _ (by simp) (by simp) _ rfl, (by repeat (first | exact Below.refl _ _ | assumption | refine below_drewN ?_ _ | refine below_alloc (Nat.le_refl _) ?_ _ | (refine Below.setCell ?_ (by first | exact Nat.le_refl _ | (simp; done) | (simp; omega) | omega) _) | (refine below_step (Nat.le_refl _) ?_ (by assumption))))⟩
  case round =>
    obtain ⟨j, K, hj, hK, rfl, ho, hb⟩ := hrel
    by_cases hlt : j < 8
    · have HT2 := Lib.hid (hexTake_succ m j hlt)
      have HO := Lib.hid ho
      have HB := Lib.hid hb
      have HL : Hid ((hexTake m j).length ≤ 1000) := by show _ ≤ _; rw [hexTake_len m j hj]; omega
      clear ho hb
      have hcase : (j = 0 ∧ K = 28) ∨ (j = 1 ∧ K = 24) ∨ (j = 2 ∧ K = 20) ∨ (j = 3 ∧ K = 16) ∨ (j = 4 ∧ K = 12) ∨ (j = 5 ∧ K = 8) ∨ (j = 6 ∧ K = 4) ∨ (j = 7 ∧ K = 0) := by omega
      clear hj hK hlt
      rcases hcase with ⟨rfl, rfl⟩ | ⟨rfl, rfl⟩ | ⟨rfl, rfl⟩ | ⟨rfl, rfl⟩ | ⟨rfl, rfl⟩ | ⟨rfl, rfl⟩ | ⟨rfl, rfl⟩ | ⟨rfl, rfl⟩
      · have q : bits BinOp.and IntKind.i64 ((m : Int) / 268435456) 15 = ((m / 268435456 % 16 : Nat) : Int) := by have h := HAND.out 268435456; simpa using h
        have HT3 : Hid (hexTake m 1 = hexTake m 0 ++ [hexDig (m / 268435456 % 16)]) := by show _ = _; have h := HT2.out; simpa using h
        have HQ : Hid (m / 268435456 % 16 < 16) := Nat.mod_lt _ (by decide)
        have qn : ((m / 268435456 % 16 : Nat) : Int).toNat = m / 268435456 % 16 := by omega
        clear HT2
        generalize m / 268435456 % 16 = d at *
        have qd : (d : Int) < 16 := by have := HQ.out; omega
        have qd2 : d < 16 := HQ.out
        go_wp2_with (at_builtin; refine wpList_appB w.heap.size (hexTake m 0) (hexDig d) rfl rfl rfl rfl ?_ ?_ HL.out ?_ ?_)
        case _ => exact OB_below HO.out (by repeat (first | exact Below.refl _ _ | assumption | refine below_drewN ?_ _ | refine below_alloc (Nat.le_refl _) ?_ _ | (refine Below.setCell ?_ (by first | exact Nat.le_refl _ | (simp; done) | (simp; omega) | omega) _) | (refine below_step (Nat.le_refl _) ?_ (by assumption))))
        case _ => rw [cellS_top1 _ _ rfl, tab16 d HQ.out]
        case _ => have := HB.out.size; simp; omega
        intro u w1 h1 h2
        have H1 := Lib.hid h1
        have H2 := Lib.hid h2
        clear h1 h2
        go_wp2
        go_roundw
        case rel => exact ⟨1, 24, by omega, by omega, by go_num, by rw [HT3.out]; exact H1.out, by have hb := HB.out; exact Below.trans (by repeat (first | exact Below.refl _ _ | assumption | refine below_drewN ?_ _ | refine below_alloc (Nat.le_refl _) ?_ _ | (refine Below.setCell ?_ (by first | exact Nat.le_refl _ | (simp; done) | (simp; omega) | omega) _) | (refine below_step (Nat.le_refl _) ?_ (by assumption)))) H2.out⟩
        case measure => simp [RowKit.intOf]
      · have q : bits BinOp.and IntKind.i64 ((m : Int) / 16777216) 15 = ((m / 16777216 % 16 : Nat) : Int) := by have h := HAND.out 16777216; simpa using h
        have HT3 : Hid (hexTake m 2 = hexTake m 1 ++ [hexDig (m / 16777216 % 16)]) := by show _ = _; have h := HT2.out; simpa using h
        have HQ : Hid (m / 16777216 % 16 < 16) := Nat.mod_lt _ (by decide)
        have qn : ((m / 16777216 % 16 : Nat) : Int).toNat = m / 16777216 % 16 := by omega
        clear HT2
        generalize m / 16777216 % 16 = d at *
        have qd : (d : Int) < 16 := by have := HQ.out; omega
        have qd2 : d < 16 := HQ.out
        go_wp2_with (at_builtin; refine wpList_appB w.heap.size (hexTake m 1) (hexDig d) rfl rfl rfl rfl ?_ ?_ HL.out ?_ ?_)
        case _ => exact OB_below HO.out (by repeat (first | exact Below.refl _ _ | assumption | refine below_drewN ?_ _ | refine below_alloc (Nat.le_refl _) ?_ _ | (refine Below.setCell ?_ (by first | exact Nat.le_refl _ | (simp; done) | (simp; omega) | omega) _) | (refine below_step (Nat.le_refl _) ?_ (by assumption))))
        case _ => rw [cellS_top1 _ _ rfl, tab16 d HQ.out]
        case _ => have := HB.out.size; simp; omega
        intro u w1 h1 h2
        have H1 := Lib.hid h1
        have H2 := Lib.hid h2
        clear h1 h2
        go_wp2
        go_roundw
        case rel => exact ⟨2, 20, by omega, by omega, by go_num, by rw [HT3.out]; exact H1.out, by have hb := HB.out; exact Below.trans (by repeat (first | exact Below.refl _ _ | assumption | refine below_drewN ?_ _ | refine below_alloc (Nat.le_refl _) ?_ _ | (refine Below.setCell ?_ (by first | exact Nat.le_refl _ | (simp; done) | (simp; omega) | omega) _) | (refine below_step (Nat.le_refl _) ?_ (by assumption)))) H2.out⟩
        case measure => simp [RowKit.intOf]
      · have q : bits BinOp.and IntKind.i64 ((m : Int) / 1048576) 15 = ((m / 1048576 % 16 : Nat) : Int) := by have h := HAND.out 1048576; simpa using h
        have HT3 : Hid (hexTake m 3 = hexTake m 2 ++ [hexDig (m / 1048576 % 16)]) := by show _ = _; have h := HT2.out; simpa using h
        have HQ : Hid (m / 1048576 % 16 < 16) := Nat.mod_lt _ (by decide)
        have qn : ((m / 1048576 % 16 : Nat) : Int).toNat = m / 1048576 % 16 := by omega
        clear HT2
        generalize m / 1048576 % 16 = d at *
        have qd : (d : Int) < 16 := by have := HQ.out; omega
        have qd2 : d < 16 := HQ.out
        go_wp2_with (at_builtin; refine wpList_appB w.heap.size (hexTake m 2) (hexDig d) rfl rfl rfl rfl ?_ ?_ HL.out ?_ ?_)
        case _ => exact OB_below HO.out (by repeat (first | exact Below.refl _ _ | assumption | refine below_drewN ?_ _ | refine below_alloc (Nat.le_refl _) ?_ _ | (refine Below.setCell ?_ (by first | exact Nat.le_refl _ | (simp; done) | (simp; omega) | omega) _) | (refine below_step (Nat.le_refl _) ?_ (by assumption))))
        case _ => rw [cellS_top1 _ _ rfl, tab16 d HQ.out]
        case _ => have := HB.out.size; simp; omega
        intro u w1 h1 h2
        have H1 := Lib.hid h1
        have H2 := Lib.hid h2
        clear h1 h2
        go_wp2
        go_roundw
        case rel => exact ⟨3, 16, by omega, by omega, by go_num, by rw [HT3.out]; exact H1.out, by have hb := HB.out; exact Below.trans (by repeat (first | exact Below.refl _ _ | assumption | refine below_drewN ?_ _ | refine below_alloc (Nat.le_refl _) ?_ _ | (refine Below.setCell ?_ (by first | exact Nat.le_refl _ | (simp; done) | (simp; omega) | omega) _) | (refine below_step (Nat.le_refl _) ?_ (by assumption)))) H2.out⟩
        case measure => simp [RowKit.intOf]
      · have q : bits BinOp.and IntKind.i64 ((m : Int) / 65536) 15 = ((m / 65536 % 16 : Nat) : Int) := by have h := HAND.out 65536; simpa using h
        have HT3 : Hid (hexTake m 4 = hexTake m 3 ++ [hexDig (m / 65536 % 16)]) := by show _ = _; have h := HT2.out; simpa using h
        have HQ : Hid (m / 65536 % 16 < 16) := Nat.mod_lt _ (by decide)
        have qn : ((m / 65536 % 16 : Nat) : Int).toNat = m / 65536 % 16 := by omega
        clear HT2
        generalize m / 65536 % 16 = d at *
        have qd : (d : Int) < 16 := by have := HQ.out; omega
        have qd2 : d < 16 := HQ.out
        go_wp2_with (at_builtin; refine wpList_appB w.heap.size (hexTake m 3) (hexDig d) rfl rfl rfl rfl ?_ ?_ HL.out ?_ ?_)
        case _ => exact OB_below HO.out (by repeat (first | exact Below.refl _ _ | assumption | refine below_drewN ?_ _ | refine below_alloc (Nat.le_refl _) ?_ _ | (refine Below.setCell ?_ (by first | exact Nat.le_refl _ | (simp; done) | (simp; omega) | omega) _) | (refine below_step (Nat.le_refl _) ?_ (by assumption))))
        case _ => rw [cellS_top1 _ _ rfl, tab16 d HQ.out]
        case _ => have := HB.out.size; simp; omega
        intro u w1 h1 h2
        have H1 := Lib.hid h1
        have H2 := Lib.hid h2
        clear h1 h2
        go_wp2
        go_roundw
        case rel => exact ⟨4, 12, by omega, by omega, by go_num, by rw [HT3.out]; exact H1.out, by have hb := HB.out; exact Below.trans (by repeat (first | exact Below.refl _ _ | assumption | refine below_drewN ?_ _ | refine below_alloc (Nat.le_refl _) ?_ _ | (refine Below.setCell ?_ (by first | exact Nat.le_refl _ | (simp; done) | (simp; omega) | omega) _) | (refine below_step (Nat.le_refl _) ?_ (by assumption)))) H2.out⟩
        case measure => simp [RowKit.intOf]
      · have q : bits BinOp.and IntKind.i64 ((m : Int) / 4096) 15 = ((m / 4096 % 16 : Nat) : Int) := by have h := HAND.out 4096; simpa using h
        have HT3 : Hid (hexTake m 5 = hexTake m 4 ++ [hexDig (m / 4096 % 16)]) := by show _ = _; have h := HT2.out; simpa using h
        have HQ : Hid (m / 4096 % 16 < 16) := Nat.mod_lt _ (by decide)
        have qn : ((m / 4096 % 16 : Nat) : Int).toNat = m / 4096 % 16 := by omega
        clear HT2
        generalize m / 4096 % 16 = d at *
        have qd : (d : Int) < 16 := by have := HQ.out; omega
        have qd2 : d < 16 := HQ.out
        go_wp2_with (at_builtin; refine wpList_appB w.heap.size (hexTake m 4) (hexDig d) rfl rfl rfl rfl ?_ ?_ HL.out ?_ ?_)
        case _ => exact OB_below HO.out (by repeat (first | exact Below.refl _ _ | assumption | refine below_drewN ?_ _ | refine below_alloc (Nat.le_refl _) ?_ _ | (refine Below.setCell ?_ (by first | exact Nat.le_refl _ | (simp; done) | (simp; omega) | omega) _) | (refine below_step (Nat.le_refl _) ?_ (by assumption))))
        case _ => rw [cellS_top1 _ _ rfl, tab16 d HQ.out]
        case _ => have := HB.out.size; simp; omega
        intro u w1 h1 h2
        have H1 := Lib.hid h1
        have H2 := Lib.hid h2
        clear h1 h2
        go_wp2
        go_roundw
        case rel => exact ⟨5, 8, by omega, by omega, by go_num, by rw [HT3.out]; exact H1.out, by have hb := HB.out; exact Below.trans (by repeat (first | exact Below.refl _ _ | assumption | refine below_drewN ?_ _ | refine below_alloc (Nat.le_refl _) ?_ _ | (refine Below.setCell ?_ (by first | exact Nat.le_refl _ | (simp; done) | (simp; omega) | omega) _) | (refine below_step (Nat.le_refl _) ?_ (by assumption)))) H2.out⟩
        case measure => simp [RowKit.intOf]
      · have q : bits BinOp.and IntKind.i64 ((m : Int) / 256) 15 = ((m / 256 % 16 : Nat) : Int) := by have h := HAND.out 256; simpa using h
        have HT3 : Hid (hexTake m 6 = hexTake m 5 ++ [hexDig (m / 256 % 16)]) := by show _ = _; have h := HT2.out; simpa using h
        have HQ : Hid (m / 256 % 16 < 16) := Nat.mod_lt _ (by decide)
        have qn : ((m / 256 % 16 : Nat) : Int).toNat = m / 256 % 16 := by omega
        clear HT2
        generalize m / 256 % 16 = d at *
        have qd : (d : Int) < 16 := by have := HQ.out; omega
        have qd2 : d < 16 := HQ.out
        go_wp2_with (at_builtin; refine wpList_appB w.heap.size (hexTake m 5) (hexDig d) rfl rfl rfl rfl ?_ ?_ HL.out ?_ ?_)
        case _ => exact OB_below HO.out (by repeat (first | exact Below.refl _ _ | assumption | refine below_drewN ?_ _ | refine below_alloc (Nat.le_refl _) ?_ _ | (refine Below.setCell ?_ (by first | exact Nat.le_refl _ | (simp; done) | (simp; omega) | omega) _) | (refine below_step (Nat.le_refl _) ?_ (by assumption))))
        case _ => rw [cellS_top1 _ _ rfl, tab16 d HQ.out]
        case _ => have := HB.out.size; simp; omega
        intro u w1 h1 h2
        have H1 := Lib.hid h1
        have H2 := Lib.hid h2
        clear h1 h2
        go_wp2
        go_roundw
        case rel => exact ⟨6, 4, by omega, by omega, by go_num, by rw [HT3.out]; exact H1.out, by have hb := HB.out; exact Below.trans (by repeat (first | exact Below.refl _ _ | assumption | refine below_drewN ?_ _ | refine below_alloc (Nat.le_refl _) ?_ _ | (refine Below.setCell ?_ (by first | exact Nat.le_refl _ | (simp; done) | (simp; omega) | omega) _) | (refine below_step (Nat.le_refl _) ?_ (by assumption)))) H2.out⟩
        case measure => simp [RowKit.intOf]
      · have q : bits BinOp.and IntKind.i64 ((m : Int) / 16) 15 = ((m / 16 % 16 : Nat) : Int) := by have h := HAND.out 16; simpa using h
        have HT3 : Hid (hexTake m 7 = hexTake m 6 ++ [hexDig (m / 16 % 16)]) := by show _ = _; have h := HT2.out; simpa using h
        have HQ : Hid (m / 16 % 16 < 16) := Nat.mod_lt _ (by decide)
        have qn : ((m / 16 % 16 : Nat) : Int).toNat = m / 16 % 16 := by omega
        clear HT2
        generalize m / 16 % 16 = d at *
        have qd : (d : Int) < 16 := by have := HQ.out; omega
        have qd2 : d < 16 := HQ.out
        go_wp2_with (at_builtin; refine wpList_appB w.heap.size (hexTake m 6) (hexDig d) rfl rfl rfl rfl ?_ ?_ HL.out ?_ ?_)
        case _ => exact OB_below HO.out (by repeat (first | exact Below.refl _ _ | assumption | refine below_drewN ?_ _ | refine below_alloc (Nat.le_refl _) ?_ _ | (refine Below.setCell ?_ (by first | exact Nat.le_refl _ | (simp; done) | (simp; omega) | omega) _) | (refine below_step (Nat.le_refl _) ?_ (by assumption))))
        case _ => rw [cellS_top1 _ _ rfl, tab16 d HQ.out]
        case _ => have := HB.out.size; simp; omega
        intro u w1 h1 h2
        have H1 := Lib.hid h1
        have H2 := Lib.hid h2
        clear h1 h2
        go_wp2
        go_roundw
        case rel => exact ⟨7, 0, by omega, by omega, by go_num, by rw [HT3.out]; exact H1.out, by have hb := HB.out; exact Below.trans (by repeat (first | exact Below.refl _ _ | assumption | refine below_drewN ?_ _ | refine below_alloc (Nat.le_refl _) ?_ _ | (refine Below.setCell ?_ (by first | exact Nat.le_refl _ | (simp; done) | (simp; omega) | omega) _) | (refine below_step (Nat.le_refl _) ?_ (by assumption)))) H2.out⟩
        case measure => simp [RowKit.intOf]
      · have q : bits BinOp.and IntKind.i64 (m : Int) 15 = ((m % 16 : Nat) : Int) := by have h := HAND.out 1; simpa using h
        have HT3 : Hid (hexTake m 8 = hexTake m 7 ++ [hexDig (m % 16)]) := by show _ = _; have h := HT2.out; simpa using h
        have HQ : Hid (m % 16 < 16) := Nat.mod_lt _ (by decide)
        have qn : ((m % 16 : Nat) : Int).toNat = m % 16 := by omega
        clear HT2
        generalize m % 16 = d at *
        have qd : (d : Int) < 16 := by have := HQ.out; omega
        have qd2 : d < 16 := HQ.out
        go_wp2_with (at_builtin; refine wpList_appB w.heap.size (hexTake m 7) (hexDig d) rfl rfl rfl rfl ?_ ?_ HL.out ?_ ?_)
        case _ => exact OB_below HO.out (by repeat (first | exact Below.refl _ _ | assumption | refine below_drewN ?_ _ | refine below_alloc (Nat.le_refl _) ?_ _ | (refine Below.setCell ?_ (by first | exact Nat.le_refl _ | (simp; done) | (simp; omega) | omega) _) | (refine below_step (Nat.le_refl _) ?_ (by assumption))))
        case _ => rw [cellS_top1 _ _ rfl, tab16 d HQ.out]
        case _ => have := HB.out.size; simp; omega
        intro u w1 h1 h2
        have H1 := Lib.hid h1
        have H2 := Lib.hid h2
        clear h1 h2
        go_wp2
        go_roundw
        case rel => exact ⟨8, -4, by omega, by omega, by go_num, by rw [HT3.out]; exact H1.out, by have hb := HB.out; exact Below.trans (by repeat (first | exact Below.refl _ _ | assumption | refine below_drewN ?_ _ | refine below_alloc (Nat.le_refl _) ?_ _ | (refine Below.setCell ?_ (by first | exact Nat.le_refl _ | (simp; done) | (simp; omega) | omega) _) | (refine below_step (Nat.le_refl _) ?_ (by assumption)))) H2.out⟩
        case measure => simp [RowKit.intOf]
    · obtain rfl : j = 8 := by omega
      have hKn : ¬ (0 : Int) ≤ K := by omega
      clear hK hj hlt
      rcases ho.1.2 with ⟨hx, _⟩ | ⟨g, cap, cur, rfl, _⟩
      · exact absurd hx ho.2
      have hl8 : (hexTake m 8).length = 8 := hexTake_len m 8 (by omega)
      have HCV := OB_string ho
      have HHB := Lib.hid hb
      have HT8 : Hid (hexTake m 8 = hexLow m 8) := by show _ = _; unfold hexTake; rw [List.take_of_length_le (by rw [hexLow_length]; omega)]
      rw [hl8] at HCV ⊢
      clear ho hb hl8 HAND
      generalize hexTake m 8 = tt at *
      go_wp2
      go_ret
      exact ⟨by rw [HFIN.out, ← HT8.out]; rfl, HHB.out⟩
end Go.Proofs.YtimckchoekkkfaaDoor
