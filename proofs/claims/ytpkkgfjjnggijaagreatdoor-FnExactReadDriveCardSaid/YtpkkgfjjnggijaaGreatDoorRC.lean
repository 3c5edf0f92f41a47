/- Walks: one number read, the program's. -/
import Derived.Test.YtpkkgfjjnggijaaGreatDoorRG
namespace Go.Proofs.YtpkkgfjjnggijaaGreatDoor
set_option linter.unusedSimpArgs false
set_option linter.unusedVariables false
open Go.RowKit Go.Fl Go.Tx Go.Lib

theorem wordOf_good {t : ByteArray} {n : Nat} (hs : t.size = 8) (hn : numFrom 0 t.data.toList = some n) : wordOf t = if cn .f32 n = n then some n else none := by
  unfold wordOf
  rw [if_pos hs, hn]
  by_cases h : cn .f32 n = n
  · rw [if_pos h]; simp [h]
  · rw [if_neg h]; simp [h]
theorem wordOf_bad {t : ByteArray} (h : ¬ (t.size = 8 ∧ ∃ n, numFrom 0 t.data.toList = some n)) : wordOf t = none := by
  unfold wordOf
  by_cases hs : t.size = 8
  · rw [if_pos hs]
    cases hn : numFrom 0 t.data.toList with
    | none => rfl
    | some n => exact absurd ⟨hs, n, hn⟩ h
  · rw [if_neg hs]
theorem toList_eq (a b : ByteArray) : (a.toList == b.toList) = decide (a = b) := by
  rw [Bool.eq_iff_iff]
  simp only [beq_iff_eq, decide_eq_true_eq]
  constructor
  · intro h
    apply ba_eq
    rwa [Go.Lib.toList_data, Go.Lib.toList_data] at h
  · rintro rfl; rfl
/-- What a word is read as. -/
def HexOut (t : ByteArray) (w : World) (e : Ending) (w' : World) : Prop := (∃ x, e = .returned (.tuple #[.float .f32 x, .bool (wordOf t).isSome]) ∧ ∀ n, wordOf t = some n → x = n) ∧ Below w.heap.size w w'
set_option maxRecDepth 100000 in
set_option maxHeartbeats 1000000 in
theorem i_readHex (t : ByteArray) (hs : t.size ≤ 1048577) (w : World) (hg : RG w) : Calls Tryz.prog 36 #[.string t] w (HexOut t w) := by
  have HG := Lib.hid hg
  clear hg
  by_cases hgood : t.size = 8 ∧ ∃ n, numFrom 0 t.data.toList = some n
  · obtain ⟨h8, n, hn⟩ := hgood
    have hw := wordOf_good h8 hn
    have hlt := (digits8 h8 hn).1
    have hL := (digits8 h8 hn).2
    have hkey : decide (hexB n = t) = (wordOf t).isSome := by
      rw [hw]
      by_cases hc : cn .f32 n = n
      · rw [if_pos hc]
        have : hexB n = t := ba_eq (by rw [hexB_list, hc, hL])
        simp [this]
      · rw [if_neg hc]
        have : hexB n ≠ t := fun he => by
          have h1 := (wordOf_iff t (cn .f32 n)).2 ⟨cn_lt hlt, cn_cn _ _, by rw [← he]; unfold hexB; rw [cn_cn]⟩
          rw [hw, if_neg hc] at h1; cases h1
        simp [this]
    have H := Lib.hid (f_ParseUint_ok t n h8 hn w)
    have HK := Lib.hid hkey
    have HW : Hid (∀ m, wordOf t = some m → n = m) := fun m hm => by
      rw [hw] at hm
      split at hm
      · cases hm; rfl
      · cases hm
    have hfb := run_frombits n
    have hwr : IntKind.u32.wrap (n : Int) = (n : Int) := by simp [IntKind.wrap, IntKind.bits, IntKind.signed]; omega
    have HX := Lib.hid (fun W hT => i_hexOf n hlt W hT)
    clear h8 hn hw hL hkey hs
    go_enter Tryz.func36, Tryz.ntmps36
    go_wp2_with fail
    refine H.out.mono ?_
    rintro e' w1 ⟨rfl, hb⟩
    have HB := Lib.hid hb
    have HG1 := Lib.hid (HG.out.below hb)
    clear hb H HG
    go_wp2_with fail
    refine (HX.out _ HG1.out.tab).mono ?_
    rintro e' w2 ⟨rfl, hb⟩
    have HB2 := Lib.hid (below_step (Nat.le_refl _) HB.out hb)
    clear hb
    go_wp2
    go_ret2
    exact ⟨⟨n, by rw [← HK.out, ← toList_eq]; rfl, HW.out⟩, HB2.out⟩
  · have hw := wordOf_bad hgood
    have H := Lib.hid (f_ParseUint_any t hs w HG.out)
    have HW := Lib.hid hw
    have HE : Hid (∀ x, x < 4294967296 → ((hexB x).toList == t.toList) = false) := fun x hx => by
      rw [toList_eq]
      exact decide_eq_false fun he => wordOf_none hw hx he
    clear hgood hw hs
    go_enter Tryz.func36, Tryz.ntmps36
    go_wp2_with fail
    refine H.out.mono ?_
    rintro e' w1 ⟨⟨m, ev, rfl, m0, m1, hev⟩, hb⟩
    have HB := Lib.hid hb
    have HG1 := Lib.hid (HG.out.below hb)
    clear hb H HG
    obtain ⟨x, hx, hwr⟩ : ∃ x : Nat, x < 4294967296 ∧ IntKind.u32.wrap m = (x : Int) := ⟨(m % 4294967296).toNat, by omega, by simp [IntKind.wrap, IntKind.bits, IntKind.signed]; omega⟩
    have hfb := run_frombits x
    have HX := Lib.hid (fun W hT => i_hexOf x hx W hT)
    have HEX := Lib.hid (HE.out x hx)
    clear hx HE
    rcases hev with rfl | ⟨te, pe, rfl⟩
    · go_wp2_with fail
      refine (HX.out _ HG1.out.tab).mono ?_
      rintro e' w2 ⟨rfl, hb⟩
      have HB2 := Lib.hid (below_step (Nat.le_refl _) HB.out hb)
      clear hb
      go_wp2
      go_ret2
      exact ⟨⟨x, by rw [HW.out]; show _ = Ending.returned (.tuple #[_, .bool false]); rw [← HEX.out]; rfl, fun n hn => by rw [HW.out] at hn; cases hn⟩, HB2.out⟩
    · go_wp2
      go_ret2
      exact ⟨⟨x, by rw [HW.out]; rfl, fun n hn => by rw [HW.out] at hn; cases hn⟩, HB.out⟩
end Go.Proofs.YtpkkgfjjnggijaaGreatDoor
