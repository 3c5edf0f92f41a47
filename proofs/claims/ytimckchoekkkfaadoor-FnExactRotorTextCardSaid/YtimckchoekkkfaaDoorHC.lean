/- Walks: the texts of lists of numbers. -/
import Derived.Test.YtimckchoekkkfaaDoorHB
import Derived.Test.YtimckchoekkkfaaDoorC
namespace Go.Proofs.YtimckchoekkkfaaDoor
set_option linter.unusedSimpArgs false
set_option linter.unusedVariables false
open Go.RowKit Go.Fl Go.Lib

/-- Bits of 32. -/
def Bd (xs : List Nat) : Prop := ∀ x ∈ xs, x < 4294967296
def joinH (xs : List Nat) : List UInt8 := Lib.join (xs.map fun x => hex8 (cn .f32 x)) [44]
def textB (xs : List Nat) : ByteArray := if xs = [] then ⟨#[110, 111, 110, 101]⟩ else ⟨(joinH xs).toArray⟩
theorem joinH_one (x : Nat) : joinH [x] = hex8 (cn .f32 x) := by unfold joinH; rw [List.map_singleton, join_one]
theorem joinH_succ (xs : List Nat) (k : Nat) (h0 : 1 ≤ k) (h : k < xs.length) : joinH (xs.take (k + 1)) = joinH (xs.take k) ++ (44 :: hex8 (cn .f32 xs[k])) := by
  cases xs with
  | nil => simp at h
  | cons x r =>
    obtain ⟨j, rfl⟩ : ∃ j, k = j + 1 := ⟨k - 1, by omega⟩
    have hj : j < r.length := by simpa using h
    unfold joinH
    simp only [List.take_succ_cons, List.map_cons, join_cons, List.getElem_cons_succ]
    rw [List.map_take, joinTail_take_succ [44] _ j (hex8 (cn .f32 r[j])) (by simp [hj]), List.map_take]
    simp
theorem joinH_len (xs : List Nat) : ∀ k, 1 ≤ k → k ≤ xs.length → (joinH (xs.take k)).length = 9 * k - 1
  | 0, h, _ => by omega
  | 1, _, h => by
    cases xs with
    | nil => simp at h
    | cons x r => simp [joinH_one, hex8_size]
  | k + 2, _, h => by
    rw [joinH_succ xs (k + 1) (by omega) (by omega), List.length_append, joinH_len xs (k + 1) (by omega) (by omega), List.length_cons, hex8_size]
    omega
theorem textB_size (xs : List Nat) : (textB xs).size ≤ 9 * xs.length + 4 := by
  unfold textB
  split
  · show 4 ≤ _; omega
  · rename_i h
    have hl : 1 ≤ xs.length := by
      cases xs with
      | nil => exact absurd rfl h
      | cons x r => simp
    have := joinH_len xs xs.length hl (Nat.le_refl _)
    rw [List.take_length] at this
    rw [size_mk, this]
    omega
theorem hexB_is (x : Nat) : hexB x = ⟨(hex8 (cn .f32 x)).toArray⟩ := rfl
theorem hexB_size (x : Nat) : (hexB x).size = 8 := by rw [hexB_is, size_mk, hex8_size]
set_option maxHeartbeats 1000000 in
theorem s_l01NText (v : Value) (xs : List Nat) (w : World) (hx : RF w v xs) (hb : Bd xs) (hl : xs.length ≤ 1048576) : Calls Tryd.prog 59 #[v] w fun e w' => e = .returned (.string (textB xs)) ∧ Below w.heap.size w w' := by
  obtain ⟨p1, cap1, rfl, hm1, hc1⟩ := id hx
  have HX := Lib.hid hx
  have HBD := Lib.hid hb
  clear hx hb
  by_cases h0 : xs.length = 0
  · have hx0 : xs = [] := List.eq_nil_of_length_eq_zero h0
    subst hx0
    clear hc1
    go_enter Tryd.func59, Tryd.ntmps59
    go_wp2
    go_ret
    exact ⟨by unfold textB; rw [if_pos rfl]; rfl, (by repeat (first | exact Below.refl _ _ | assumption | refine below_drewN ?_ _ | refine below_alloc (Nat.le_refl _) ?_ _ | (refine Below.setCell ?_ (by first | exact Nat.le_refl _ | (simp; done) | (simp; omega) | omega) _) | (refine below_step (Nat.le_refl _) ?_ (by assumption))))⟩
  · obtain ⟨b1, o1, rfl, hcell1⟩ := hc1.resolve_left h0
    have HCELL := Lib.hid hcell1
    have hpos : 0 < xs.length := by omega
    obtain ⟨x0, e0⟩ : ∃ x0, xs[0]'hpos = x0 := ⟨_, rfl⟩
    have g0 : w.cell? ⟨b1, o1, none⟩ = some (.float .f32 x0) := by
      have := hcell1 0 (.float .f32 x0) (by rw [List.getElem?_map, List.getElem?_eq_getElem hpos, e0]; rfl)
      simpa using this
    have q0 : ((xs.length : Int) == 0) = false := by simp; intro e; rw [e] at hpos; simp at hpos
    have q1 : (0 : Int) < (xs.length : Int) := by omega
    have HFIN : Hid (textB xs = ⟨(joinH (xs.take xs.length)).toArray⟩) := by show _ = _; unfold textB; rw [if_neg (by intro e; rw [e] at h0; simp at h0), List.take_length]
    have HST : Hid (hexB x0 = ⟨(joinH (xs.take 1)).toArray⟩) := by
      show _ = _
      have e : xs.take 1 = [x0] := by rw [List.take_succ_eq_append_getElem hpos, e0]; simp
      rw [e, joinH_one]; rfl
    have hx0 : x0 < 4294967296 := by rw [← e0]; exact HBD.out _ (List.getElem_mem _)
    clear e0
    clear hcell1 hc1
    go_enter Tryd.func59, Tryd.ntmps59
    go_wp2_with (go_at_call 81; refine (s_l01Hex _ hx0 _).mono ?_; rintro e w1 ⟨rfl, hb1⟩)
    rw [HST.out]
    have HB1 := Lib.hid hb1
    clear hb1 g0 hx0 HST
    go_loopw [3, 4] (fun t i wr => ∃ k : Nat, 1 ≤ k ∧ k ≤ xs.length ∧ i = .int .i64 (k : Int) ∧ t = .string ⟨(joinH (xs.take k)).toArray⟩ ∧ Below w.heap.size w wr) (fun _ i _ => xs.length - (RowKit.intOf i).toNat)
    case atStart => exact ⟨1, Nat.le_refl _, by omega, rfl, rfl, HB1.out⟩
    case round =>
      obtain ⟨k, hk1, hk2, rfl, rfl, hb⟩ := hrel
      by_cases hlt : k < xs.length
      · have g1 : w.cell? ⟨b1, o1 + k, none⟩ = some (.float .f32 xs[k]) := HCELL.out k _ (by simp [hlt])
        have g1 := (hb.cell (p := ⟨b1, o1 + k, none⟩) (block_lt_of_cell g1)).trans g1
        have hxk : xs[k] < 4294967296 := HBD.out _ (List.getElem_mem _)
        have HB := Lib.hid hb
        have HT : Hid ((⟨(joinH (xs.take k)).toArray⟩ : ByteArray) ++ ((⟨#[44]⟩ : ByteArray) ++ hexB xs[k]) = ⟨(joinH (xs.take (k + 1))).toArray⟩) := by
          show _ = _
          rw [joinH_succ xs k hk1 hlt, hexB_is]
          have e : (⟨#[44]⟩ : ByteArray) = ⟨([44] : List UInt8).toArray⟩ := rfl
          rw [e, cat_mk, cat_mk]; rfl
        have hs1 : (⟨(joinH (xs.take k)).toArray⟩ : ByteArray).size ≤ 9500000 := by rw [size_mk, joinH_len xs k hk1 (by omega)]; omega
        have hs2 := hexB_size xs[k]
        clear hb
        generalize (⟨(joinH (xs.take k)).toArray⟩ : ByteArray) = t0 at *
        generalize xs[k] = x at *
        generalize hhx : hexB x = hx at *
        have HHX := Lib.hid hhx
        clear hhx
        go_wp2_with (go_at_call 81; refine (s_l01Hex _ hxk _).mono ?_; rintro e w2 ⟨rfl, hb2⟩; rw [HHX.out])
        refine ⟨⟨k + 1, by omega, by omega, by go_num, by rw [HT.out], ?_⟩, by simp [RowKit.intOf]; omega⟩
        exact below_step (Nat.le_refl _) HB.out hb2
      · obtain rfl : k = xs.length := by omega
        rw [← HFIN.out]
        go_wp2
        go_ret
        exact ⟨rfl, hb⟩
set_option maxHeartbeats 1000000 in
theorem i_listOrNone (v : Value) (xs : List Nat) (B : Nat) (w : World) (hx : OS B w v (xs.map hexB)) (hl : xs.length ≤ 1048576) : Calls Tryd.prog 84 #[v] w fun e w' => e = .returned (.string (textB xs)) ∧ Below w.heap.size w w' := by
  have HX := Lib.hid hx
  obtain ⟨hlen, hcase⟩ := hx
  by_cases h0 : xs.length = 0
  · have hx0 : xs = [] := List.eq_nil_of_length_eq_zero h0
    subst hx0
    have hv : ∃ p c, v = .slice p 0 c := by
      rcases hcase with ⟨h, -⟩ | ⟨g, cap, cur, h, -⟩
      · exact ⟨_, _, h⟩
      · exact ⟨_, _, h⟩
    obtain ⟨p, c, rfl⟩ := hv
    clear hlen hcase
    go_enter Tryd.func84, Tryd.ntmps84
    go_wp2
    go_ret
    exact ⟨by unfold textB; rw [if_pos rfl]; rfl, (by repeat (first | exact Below.refl _ _ | assumption | refine below_drewN ?_ _ | refine below_alloc (Nat.le_refl _) ?_ _ | (refine Below.setCell ?_ (by first | exact Nat.le_refl _ | (simp; done) | (simp; omega) | omega) _) | (refine below_step (Nat.le_refl _) ?_ (by assumption))))⟩
  · rcases hcase with ⟨-, h⟩ | ⟨g, cap, cur, rfl, hBg, hg, hnc, hcm, -⟩
    · exact absurd (by simpa using h) (fun e : xs = [] => h0 (by rw [e]; rfl))
    have hlm : (xs.map hexB).length = xs.length := by simp
    rw [hlm] at hnc hlen
    have q0 : ((xs.length : Int) == 0) = false := by simp; intro e; rw [e] at h0; exact h0 rfl
    have HJ : Hid (∀ W : World, Below w.heap.size w W → Calls Tryd.prog 93 #[.slice (some ⟨g, 0, none⟩) xs.length cap, .string ⟨#[44]⟩] W fun e w' => e = .returned (.string (textB xs)) ∧ Below W.heap.size W w') := fun W hb => by
      have hlt : g < w.heap.size := (Array.getElem?_eq_some_iff.1 hg).1
      have hmap : ((xs.map hexB).map (·.data.toList)) = xs.map fun x => hex8 (cn .f32 x) := by rw [List.map_map]; rfl
      have hjl : (Lib.join ((xs.map hexB).map (·.data.toList)) [44]).length ≤ 140737488355328 := by
        rw [hmap]
        have := joinH_len xs xs.length (by omega) (Nat.le_refl _)
        rw [List.take_length] at this
        show (joinH xs).length ≤ _
        omega
      have h := Tryd.strings_Join g 0 cap (xs.map hexB) ⟨#[44]⟩ W (fun j x hj => by
        have hjl : j < (xs.map hexB).length := (List.getElem?_eq_some_iff.1 hj).1
        have h1 := World.ownsRow.cellAt (OS_below HX.out hb) j (by rw [Nat.mul_one]; exact hjl)
        rw [Nat.zero_add, h1, List.getElem?_map, hj]; rfl) (Nat.lt_of_lt_of_le hlt hb.size) (by omega) (by omega) hjl
      rw [hlm] at h
      refine h.mono fun e w' ⟨he, hb'⟩ => ⟨?_, hb'⟩
      rw [he]
      show Ending.returned (.string ⟨(Lib.join ((xs.map hexB).map (·.data.toList)) [44]).toArray⟩) = _
      rw [hmap]
      unfold textB
      rw [if_neg (by intro e; rw [e] at h0; exact h0 rfl)]
      rfl
    rw [hlm]
    clear hlen hg hBg hnc hcm hlm
    go_enter Tryd.func84, Tryd.ntmps84
    go_wp2_with (go_at_call 93; refine (HJ.out _ (Below.refl _ _)).mono ?_; rintro e w' ⟨rfl, hb⟩)
    go_ret
    exact ⟨rfl, hb⟩
set_option maxHeartbeats 1000000 in
theorem i_NumbersText (v : Value) (xs : List Nat) (w : World) (hx : RF w v xs) (hb : Bd xs) (hl : xs.length ≤ 256) (ht : T64 w) : Calls Tryd.prog 63 #[v] w fun e w' => e = .returned (.tuple #[.string (textB xs), .bool true]) ∧ Below w.heap.size w w' := by
  obtain ⟨p1, cap1, rfl, hm1, hc1⟩ := id hx
  have HBD := Lib.hid hb
  have HT := Lib.hid ht
  have HC1 := Lib.hid hc1
  have q0 : ¬ (256 : Int) < (xs.length : Int) := by omega
  clear hx hb ht hc1
  go_enter Tryd.func63, Tryd.ntmps63
  go_wp2_with fail
  go_loopw [4, 13] (fun t i wr => ∃ k : Nat, k ≤ xs.length ∧ i = .int .i64 (k : Int) ∧ OS w.heap.size wr t ((xs.take k).map hexB) ∧ Below w.heap.size w wr) (fun _ i _ => xs.length - (RowKit.intOf i).toNat)
  case atStart => exact ⟨0, Nat.zero_le _, rfl, OS_empty _ _ _ (by simp) (by simp) _ rfl, (by repeat (first | exact Below.refl _ _ | assumption | refine below_drewN ?_ _ | refine below_alloc (Nat.le_refl _) ?_ _ | (refine Below.setCell ?_ (by first | exact Nat.le_refl _ | (simp; done) | (simp; omega) | omega) _) | (refine below_step (Nat.le_refl _) ?_ (by assumption))))⟩
  case round =>
    obtain ⟨k, hk, rfl, ho, hb⟩ := hrel
    by_cases hlt : k < xs.length
    · obtain ⟨b1, o1, rfl, hcell1⟩ := HC1.out.resolve_left (by omega)
      have g1 : w.cell? ⟨b1, o1 + k, none⟩ = some (.float .f32 xs[k]) := hcell1 k _ (by simp [hlt])
      have g1 := (hb.cell (p := ⟨b1, o1 + k, none⟩) (block_lt_of_cell g1)).trans g1
      have hxk : xs[k] < 4294967296 := HBD.out _ (List.getElem_mem _)
      have HS : Hid ((xs.take (k + 1)).map hexB = (xs.take k).map hexB ++ [hexB xs[k]]) := by show _ = _; rw [List.take_succ_eq_append_getElem hlt, List.map_append]; rfl
      have HL : Hid (((xs.take k).map hexB).length ≤ 1048577) := by show _ ≤ _; simp; omega
      have HB := Lib.hid hb
      have HO := Lib.hid ho
      have HTT := Lib.hid (T64_below HT.out (hb.mono (Nat.le_refl _)))
      clear hcell1 hb ho
      generalize xs[k] = x at *
      generalize (xs.take k).map hexB = zs at *
      go_wp2_with fail
      refine (i_hexOf x hxk _ HTT.out).mono ?_
      rintro e w2 ⟨rfl, hb2⟩
      have HO2 := Lib.hid (OS_below HO.out hb2)
      have HB2 := Lib.hid (below_step (Nat.le_refl _) HB.out hb2)
      clear hb2
      go_wp2_with (at_builtin; refine wpList_appS w.heap.size zs (hexB x) rfl rfl rfl rfl ?_ ?_ HL.out ?_ ?_)
      case _ => exact OS_below HO2.out (by repeat (first | exact Below.refl _ _ | assumption | refine below_drewN ?_ _ | refine below_alloc (Nat.le_refl _) ?_ _ | (refine Below.setCell ?_ (by first | exact Nat.le_refl _ | (simp; done) | (simp; omega) | omega) _) | (refine below_step (Nat.le_refl _) ?_ (by assumption))))
      case _ => exact cellS_top1 _ _ rfl _ _
      case _ => have := HB2.out.size; simp; omega
      intro u w3 h1 h2
      have H1 := Lib.hid h1
      have H2 := Lib.hid h2
      clear h1 h2
      go_wp2
      go_roundw
      case rel => exact ⟨k + 1, by omega, by go_num, by rw [HS.out]; exact H1.out, by have hb := HB2.out; exact Below.trans (by repeat (first | exact Below.refl _ _ | assumption | refine below_drewN ?_ _ | refine below_alloc (Nat.le_refl _) ?_ _ | (refine Below.setCell ?_ (by first | exact Nat.le_refl _ | (simp; done) | (simp; omega) | omega) _) | (refine below_step (Nat.le_refl _) ?_ (by assumption)))) H2.out⟩
      case measure => simp [RowKit.intOf]; omega
    · obtain rfl : k = xs.length := by omega
      rw [List.take_length] at ho
      have HO := Lib.hid ho
      have HB := Lib.hid hb
      clear ho hb
      go_wp2_with (go_at_call 84; refine (i_listOrNone _ xs _ _ HO.out (by omega)).mono ?_; rintro e w2 ⟨rfl, hb2⟩)
      go_ret2
      exact ⟨rfl, below_step (Nat.le_refl _) HB.out hb2⟩
theorem i_numbers (v : Value) (xs : List Nat) (w : World) (hx : RF w v xs) (hb : Bd xs) (hl : xs.length ≤ 256) (ht : T64 w) : Calls Tryd.prog 32 #[v] w fun e w' => e = .returned (.string (textB xs)) ∧ Below w.heap.size w w' := by
  have HX := Lib.hid hx
  have HBD := Lib.hid hb
  have HT := Lib.hid ht
  clear hx hb ht
  go_enter Tryd.func32, Tryd.ntmps32
  go_wp2_with (go_at_call 63; refine (i_NumbersText v xs _ HX.out HBD.out hl HT.out).mono ?_; rintro e w2 ⟨rfl, hb2⟩)
  go_ret
  exact ⟨rfl, hb2⟩
end Go.Proofs.YtimckchoekkkfaaDoor
