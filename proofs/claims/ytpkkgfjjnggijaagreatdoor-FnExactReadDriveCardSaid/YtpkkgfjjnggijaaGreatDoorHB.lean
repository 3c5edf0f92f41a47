/- Walks: the texts of numbers. -/
import Derived.Test.YtpkkgfjjnggijaaGreatDoorHA
import Derived.Laws.IdiomStrings
import Derived.Laws.Externs
import Derived.Lib.Join
import Derived.Lib.Repeat
namespace Go.Proofs.YtpkkgfjjnggijaaGreatDoor
set_option linter.unusedSimpArgs false
set_option linter.unusedVariables false
open Go.RowKit Go.Fl Go.Lib

theorem ne_selfT (x : Nat) : (FloatKind.f32.format.order x x != some .eq) = isNan .f32 x := by
  cases h : isNan .f32 x
  · rw [order_self h]; rfl
  · rw [od_nan_left h]; rfl
theorem cn_lt {x : Nat} (h : x < 4294967296) : cn .f32 x < 4294967296 := by
  unfold cn
  split
  · show 2143289344 < _; omega
  · exact h
theorem cat_mk (a b : List UInt8) : (⟨a.toArray⟩ : ByteArray) ++ ⟨b.toArray⟩ = ⟨(a ++ b).toArray⟩ := by
  apply ByteArray.ext
  simp [ByteArray.data_append]
theorem size_mk (a : List UInt8) : (⟨a.toArray⟩ : ByteArray).size = a.length := by simp [ByteArray.size]
theorem repeat_one (b : UInt8) : ∀ c, repeatL [b] c = List.replicate c b
  | 0 => rfl
  | c + 1 => by show [b] ++ repeatL [b] c = _; rw [repeat_one b c]; rfl
/-- A slice of bytes that is the call's own, and not nil. -/
def OB (B : Nat) (w : World) (v : Value) (ds : List UInt8) : Prop := w.ownsRow B 5 1 v ds.length (ds.map fun b => Value.int .u8 (b.toNat : Int)) ∧ v ≠ .slice none 0 0
theorem OB_below {B : Nat} {w w' : World} {v : Value} {ds : List UInt8} (h : OB B w v ds) (hb : Below w.heap.size w w') : OB B w' v ds := ⟨ownS_below h.1 hb, h.2⟩
theorem OB_empty (B : Nat) (w : World) (k : Nat) (hk : k = w.heap.size) (hB : B ≤ w.heap.size) (t : TypeId) (ht : t = 5) : OB B (w.alloc (.cells #[] t)) (.slice (some ⟨k, 0, none⟩) 0 0) [] := by
  subst hk ht
  exact ⟨World.ownsRow_lit w #[] 0 hB (by unfold maxLen; omega) rfl, by simp⟩
theorem wpList_appB {ops : Array Oper} {rest : List Oper} {o : Oper} {a : Act} {Q : Exit → Act → World → Prop} {w : World} (B : Nat) (ds : List UInt8) (d : UInt8) {s x : Operand} {v : Value} {g : Nat} (hgd : o.guard = none)
    (ho : o.op = .call { callee := .builtin .append, args := #[s, x], argTypes := #[109, 109] }) (hs : a.eval s = v) (hx : a.eval x = .slice (some ⟨g, 0, none⟩) 1 1)
    (hown : OB B w v ds) (hcell : w.cell? ⟨g, 0, none⟩ = some (.int .u8 (d.toNat : Int))) (hl : ds.length ≤ 1000) (hB : B ≤ w.heap.size)
    (h : ∀ u w', OB B w' u (ds ++ [d]) → Below B w w' → wpList Tryz.prog ops Q rest (a.put o.dst u) w') : wpList Tryz.prog ops Q (o :: rest) a w := by
  have hinfo : (Tryz.prog.info? 5).map (fun i => (i.zero, i.size, i.bytes)) = some (some (.int .u8 0), 1, 1) := by kernel_rfl
  obtain ⟨i, hi, hzz⟩ := Option.map_eq_some_iff.1 hinfo
  simp only [Prod.mk.injEq] at hzz
  obtain ⟨hz, hsz, hby⟩ := hzz
  refine wpList_append_own w hgd s x 109 ho B 5 i (.int .u8 0) 1 1 Tryz.underlying109 hi hz hsz hby rfl (by decide) v ds.length _ hs hown.1 ⟨g, 0, none⟩ 1 1 [.int .u8 (d.toNat : Int)] hx rfl ?_ ?_ (by unfold maxLen; omega) (by omega) hB ?_
  · intro j u hj
    match j, hj with
    | 0, hj => simp at hj; subst hj; simpa [Addr.add] using hcell
  · intro u hu; simp at hu; subst hu; rfl
  · intro v' w' h1 h2 h3
    refine h v' w' ⟨?_, fun h0 => hown.2 (h3.1 h0).1⟩ (grownS_below hown.1 h2 hB (Nat.le_refl _))
    show w'.ownsRow _ _ _ _ _ _
    simpa using h1
theorem OB_string {B : Nat} {w : World} {g cap : Nat} {ds : List UInt8} (h : OB B w (.slice (some ⟨g, 0, none⟩) ds.length cap) ds) : (convert 109 9 (.slice (some ⟨g, 0, none⟩) ds.length cap)).run Tryz.prog w = .ok (.string ⟨ds.toArray⟩) w := by
  refine run_convert_bytes_back w 109 9 5 ⟨g, 0, none⟩ cap ds Tryz.underlying109 Tryz.underlying5 Tryz.underlying9 fun j hj => ?_
  have := h.1.cellAt j (by omega)
  rw [Addr.add_lit, Nat.zero_add, this]; simp [hj]
theorem tab16 (d : Nat) (h : d < 16) (h2 : d < ByteArray.size ⟨#[48, 49, 50, 51, 52, 53, 54, 55, 56, 57, 97, 98, 99, 100, 101, 102]⟩) : (⟨#[48, 49, 50, 51, 52, 53, 54, 55, 56, 57, 97, 98, 99, 100, 101, 102]⟩ : ByteArray)[d]'h2 = hexDig d := by
  have H : ∀ (d : Fin 16) (h2 : d.val < ByteArray.size ⟨#[48, 49, 50, 51, 52, 53, 54, 55, 56, 57, 97, 98, 99, 100, 101, 102]⟩), (⟨#[48, 49, 50, 51, 52, 53, 54, 55, 56, 57, 97, 98, 99, 100, 101, 102]⟩ : ByteArray)[d.val]'h2 = hexDig d.val := by decide
  exact H ⟨d, h⟩ h2
/-- The first j digits. -/
def hexTake (m j : Nat) : List UInt8 := (hexLow m 8).take j
theorem hexTake_len (m j : Nat) (h : j ≤ 8) : (hexTake m j).length = j := by unfold hexTake; rw [List.length_take, hexLow_length]; omega
theorem hexTake_succ (m j : Nat) (h : j < 8) : hexTake m (j + 1) = hexTake m j ++ [hexDig (m / 16 ^ (7 - j) % 16)] := by
  unfold hexTake
  have hl : j < (hexLow m 8).length := by rw [hexLow_length]; exact h
  have hg := hexLow_get m 8 (7 - j) (by omega)
  rw [show 8 - 1 - (7 - j) = j by omega, List.getElem?_eq_getElem hl, Option.some.injEq] at hg
  rw [List.take_succ_eq_append_getElem hl, hg]
theorem run_f32bitsT (x : Nat) (w : World) : (callFunc 77 #[.float .f32 x]).run Tryz.prog w = .ok (.value (.int .u32 x)) w := by
  rw [run_callFunc_extern (e := Extern.MathFloatBits.float32bits) Tryz.func77 (by kernel_rfl) (by kernel_rfl) (by kernel_rfl) (by kernel_rfl)]
  rfl
theorem s_l01BitsT (x : Nat) (w : World) (hx : x < 4294967296) : Calls Tryz.prog 52 #[.float .f32 x] w fun e w' => e = .returned (.int .i64 (cn .f32 x : Nat)) ∧ ∃ n, w' = w.drewN n := by
  have h0 := ne_selfT x
  have hw : IntKind.i64.wrap (x : Int) = (x : Int) := by rw [IntKind.wrap_i64]; omega
  have hfb := run_f32bitsT x
  cases h : isNan .f32 x
  all_goals
    rw [h] at h0
    go_enter Tryz.func52, Tryz.ntmps52
    go_wp2
    go_ret
    exact ⟨by unfold cn; rw [h]; rfl, 0, rfl⟩
theorem i_BitsOf (x : Nat) (w : World) (hx : x < 4294967296) : Calls Tryz.prog 84 #[.float .f32 x] w fun e w' => e = .returned (.int .i64 (cn .f32 x : Nat)) ∧ ∃ n, w' = w.drewN n := by
  have h0 := ne_selfT x
  have hw : IntKind.i64.wrap (x : Int) = (x : Int) := by rw [IntKind.wrap_i64]; omega
  have hfb := run_f32bitsT x
  cases h : isNan .f32 x
  all_goals
    rw [h] at h0
    go_enter Tryz.func84, Tryz.ntmps84
    go_wp2
    go_ret
    exact ⟨by unfold cn; rw [h]; rfl, 0, rfl⟩
theorem f_FormatIntI (n : Nat) (hn : n < 4294967296) (w : World) (h : T64 w) : Calls Tryz.prog 90 #[.int .i64 (n : Int), .int .i64 16] w fun e w' =>
    ∃ k, k < 8 ∧ n / 16 ^ k < 16 ∧ e = .returned (.string ⟨(hexLow n (k + 1)).toArray⟩) ∧ Below w.heap.size w w' := by
  have HT := Lib.hid h
  clear h
  have q1 : decide ((n : Int) < 0) = false := by simp
  have q2 : IntKind.u64.wrap (n : Int) = (n : Int) := by rw [IntKind.wrap_u64]; omega
  go_enter Tryz.func90, Tryz.ntmps90
  go_wp2_with (go_at_call 115; refine (f_formatBits n hn _ HT.out).mono ?_; rintro e w' ⟨k, hk, hk2, rfl, hb⟩)
  go_ret
  exact ⟨k, hk, hk2, rfl, hb⟩
theorem f_FormatInt (n : Nat) (hn : n < 4294967296) (w : World) (h : T64 w) : Calls Tryz.prog 67 #[.int .i64 (n : Int), .int .i64 16] w fun e w' =>
    ∃ k, k < 8 ∧ n / 16 ^ k < 16 ∧ e = .returned (.string ⟨(hexLow n (k + 1)).toArray⟩) ∧ Below w.heap.size w w' := by
  have HT := Lib.hid h
  clear h
  go_enter Tryz.func67, Tryz.ntmps67
  go_wp2_with (go_at_call 90; refine (f_FormatIntI n hn _ HT.out).mono ?_; rintro e w' ⟨k, hk, hk2, rfl, hb⟩)
  go_ret
  exact ⟨k, hk, hk2, rfl, hb⟩
theorem i_hexOf (x : Nat) (hx : x < 4294967296) (w : World) (h : T64 w) : Calls Tryz.prog 63 #[.float .f32 x] w fun e w' => e = .returned (.string (hexB x)) ∧ Below w.heap.size w w' := by
  have HT := Lib.hid h
  have HC := Lib.hid (cn_lt hx)
  clear h
  go_enter Tryz.func63, Tryz.ntmps63
  go_wp2_with fail
  refine (i_BitsOf x _ hx).mono ?_
  rintro e w' ⟨rfl, n, rfl⟩
  go_wp2_with fail
  refine (f_FormatInt _ HC.out _ (T64_below HT.out (below_drewN (Below.refl _ _) _))).mono ?_
  rintro e w1 ⟨k, hk, hk2, rfl, hb⟩
  have HK : Hid (cn .f32 x / 16 ^ (k + 1) = 0) := by show _ = _; rw [Nat.pow_succ, ← Nat.div_div_eq_div_mul, Nat.div_eq_of_lt hk2]
  obtain ⟨c, hc⟩ : ∃ c, c = 7 - k := ⟨_, rfl⟩
  have hsz : (⟨(hexLow (cn .f32 x) (k + 1)).toArray⟩ : ByteArray).size = k + 1 := by rw [size_mk, hexLow_length]
  have q1 : IntKind.i64.wrap (8 - ((⟨(hexLow (cn .f32 x) (k + 1)).toArray⟩ : ByteArray).size : Int)) = (c : Int) := by rw [hsz, IntKind.wrap_i64]; omega
  have HB1 := Lib.hid hb
  have HFIN : Hid ((⟨(repeatL [48] c).toArray⟩ : ByteArray) ++ ⟨(hexLow (cn .f32 x) (k + 1)).toArray⟩ = hexB x) := by
    show _ = _
    rw [cat_mk, repeat_one]
    unfold hexB hex8
    have e := hexLow_pad (cn .f32 x) (k + 1) HK.out c
    rw [show k + 1 + c = 8 by omega] at e
    rw [e]
  have hs0 : (⟨(repeatL [48] c).toArray⟩ : ByteArray).size = c := by rw [size_mk, repeat_one]; simp
  have HKC : Hid (k + c = 7) := by show _ = _; omega
  clear hc hb hk hk2 hsz
  have hss : (⟨(hexLow (cn .f32 x) (k + 1)).toArray⟩ : ByteArray).size = k + 1 := by rw [size_mk, hexLow_length]
  generalize (⟨(hexLow (cn .f32 x) (k + 1)).toArray⟩ : ByteArray) = s at *
  have HSS := Lib.hid hss
  clear hss
  have HREP : Hid (∀ W, Calls Tryz.prog 85 #[.string ⟨#[48]⟩, .int .i64 (c : Int)] W fun e w' => e = .returned (.string ⟨(repeatL [48] c).toArray⟩) ∧ Below W.heap.size W w') := fun W =>
    Tryz.strings_Repeat ⟨#[48]⟩ c W (by have := HKC.out; omega) (by have := HKC.out; show 1 * c ≤ _; omega)
  generalize (⟨(repeatL [48] c).toArray⟩ : ByteArray) = t at *
  have q2 : ¬ 9223372036854775807 < t.size + s.size := by have := HSS.out; have := HKC.out; omega
  clear hs0
  go_wp2_with (go_at_call 85; refine (HREP.out _).mono ?_; rintro e w2 ⟨rfl, hb2⟩)
  go_ret
  exact ⟨by rw [← HFIN.out]; rfl, Below.trans (show Below w.heap.size w w1 from below_step (Nat.le_refl _) (below_drewN (Below.refl _ _) _) HB1.out) (hb2.mono (by have := HB1.out.size; simpa using this))⟩
end Go.Proofs.YtpkkgfjjnggijaaGreatDoor
