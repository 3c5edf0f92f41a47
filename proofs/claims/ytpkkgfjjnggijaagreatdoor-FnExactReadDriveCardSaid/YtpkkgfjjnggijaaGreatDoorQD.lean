/- Walks: a drive read, the reference's. -/
import Derived.Test.YtpkkgfjjnggijaaGreatDoorQC
import Derived.Test.YtpkkgfjjnggijaaGreatDoorRE
import Derived.Test.YtpkkgfjjnggijaaGreatDoorHFV
import Derived.Test.YtpkkgfjjnggijaaGreatDoorHF
import Derived.Test.YtpkkgfjjnggijaaGreatDoorHFB
import Derived.Deep.RegionHeld3
namespace Go.Proofs.YtpkkgfjjnggijaaGreatDoor
set_option linter.unusedSimpArgs false
set_option linter.unusedVariables false
open Go.RowKit Go.Fl Go.Tx Go.Lib

/-- A drive's numbers. -/
structure Dr where
  (i d r l m s k e : Nat)
  st : Int
  (sp pi en : Nat)
abbrev Dr.v (x : Dr) : Value := drvV x.i x.d x.r x.l x.m x.s x.k x.e x.st x.sp x.pi x.en
abbrev Dr.At (x : Dr) (w : World) (g : Nat) : Prop := DrvAt w g x.i x.d x.r x.l x.m x.s x.k x.e x.st x.sp x.pi x.en
abbrev Dr.ok (x : Dr) : Bool := drvOk x.i x.d x.r x.l x.m x.s x.k x.e x.st x.sp x.pi x.en
def zeroDr : Dr := ⟨0, 0, 0, 0, 0, 0, 0, 0, 0, 0, 0, 0⟩
/-- What three parts tell. -/
def drOf : Option (List Nat) → Option Int → Option (List Nat) → Option Dr
  | some [i, d, r, l, m, s, k, e], some st, some [sp, pi, en] => if drvOk i d r l m s k e st sp pi en then some ⟨i, d, r, l, m, s, k, e, st, sp, pi, en⟩ else none
  | _, _, _ => none
def driveOf (t : ByteArray) : Option Dr := match cutAll 59 t with
  | [a, b, c] => drOf (numsOf a) (decOf b) (numsOf c)
  | _ => none
def DrvRd (t : ByteArray) (w : World) (e : Ending) (w' : World) : Prop := e = .returned (.tuple #[((driveOf t).getD zeroDr).v, .bool (driveOf t).isSome]) ∧ Below w.heap.size w w'
theorem DrvRd.no {t : ByteArray} {w w' : World} (h : driveOf t = none) (hb : Below w.heap.size w w') : DrvRd t w (.returned (.tuple #[drvV 0 0 0 0 0 0 0 0 0 0 0 0, .bool false])) w' := ⟨by rw [h]; rfl, hb⟩
theorem DrvRd.ok {t : ByteArray} {x : Dr} {w w' : World} (h : driveOf t = some x) (hb : Below w.heap.size w w') : DrvRd t w (.returned (.tuple #[x.v, .bool true])) w' := ⟨by rw [h]; rfl, hb⟩
theorem driveOf_len {t : ByteArray} (h : (cutAll 59 t).length ≠ 3) : driveOf t = none := by
  unfold driveOf
  split
  · rename_i e; rw [e] at h; exact absurd rfl h
  · rfl
theorem driveOf_mk {t p0 p1 p2 : ByteArray} (h : cutAll 59 t = [p0, p1, p2]) : driveOf t = drOf (numsOf p0) (decOf p1) (numsOf p2) := by unfold driveOf; rw [h]
theorem drOf_no {x : Option (List Nat)} {n : Option Int} {y : Option (List Nat)} (h : (x.isSome && n.isSome && y.isSome) = false) : drOf x n y = none := by
  cases x <;> cases n <;> cases y <;> first | rfl | (cases h)
  all_goals (unfold drOf; split <;> first | rfl | (exfalso; simp_all; done))
theorem drOf_len {x : List Nat} {n : Int} {y : List Nat} (h : x.length ≠ 8 ∨ y.length ≠ 3) : drOf (some x) (some n) (some y) = none := by
  unfold drOf
  split
  · rename_i e1 e2 e3
    cases e1; cases e3
    simp at h
  · rfl
theorem RF_eight {w : World} {v : Value} {a b c d e f g h : Nat} (hr : RF w v [a, b, c, d, e, f, g, h]) : ∃ q o cap, v = .slice (some ⟨q, o, none⟩) 8 cap ∧ (w.cell? ⟨q, o, none⟩ = some (.float .f32 a) ∧ w.cell? ⟨q, o + 1, none⟩ = some (.float .f32 b) ∧ w.cell? ⟨q, o + 2, none⟩ = some (.float .f32 c) ∧ w.cell? ⟨q, o + 3, none⟩ = some (.float .f32 d) ∧
    w.cell? ⟨q, o + 4, none⟩ = some (.float .f32 e) ∧ w.cell? ⟨q, o + 5, none⟩ = some (.float .f32 f) ∧ w.cell? ⟨q, o + 6, none⟩ = some (.float .f32 g) ∧ w.cell? ⟨q, o + 7, none⟩ = some (.float .f32 h)) := by
  obtain ⟨p, cap, rfl, hm, hc⟩ := hr
  obtain ⟨q, o, rfl, hcell⟩ := hc.resolve_left (by simp)
  exact ⟨q, o, cap, rfl, hcell 0 _ rfl, hcell 1 _ rfl, hcell 2 _ rfl, hcell 3 _ rfl, hcell 4 _ rfl, hcell 5 _ rfl, hcell 6 _ rfl, hcell 7 _ rfl⟩
theorem RF_thr {w : World} {v : Value} {a b c : Nat} (h : RF w v [a, b, c]) : ∃ g o cap, v = .slice (some ⟨g, o, none⟩) 3 cap ∧ w.cell? ⟨g, o, none⟩ = some (.float .f32 a) ∧ w.cell? ⟨g, o + 1, none⟩ = some (.float .f32 b) ∧ w.cell? ⟨g, o + 2, none⟩ = some (.float .f32 c) := by
  obtain ⟨p, cap, rfl, hm, hc⟩ := h
  obtain ⟨g, o, rfl, hcell⟩ := hc.resolve_left (by simp)
  exact ⟨g, o, cap, rfl, hcell 0 _ rfl, hcell 1 _ rfl, hcell 2 _ rfl⟩
theorem RS_thr {w : World} {v : Value} {p0 p1 p2 : ByteArray} (h : RS w v [p0, p1, p2]) : ∃ g o cap, v = .slice (some ⟨g, o, none⟩) 3 cap ∧ w.cell? ⟨g, o, none⟩ = some (.string p0) ∧ w.cell? ⟨g, o + 1, none⟩ = some (.string p1) ∧ w.cell? ⟨g, o + 2, none⟩ = some (.string p2) := by
  obtain ⟨p, cap, rfl, hm, hc⟩ := h
  obtain ⟨g, o, rfl, hcell⟩ := hc.resolve_left (by simp)
  exact ⟨g, o, cap, rfl, hcell 0 _ rfl, hcell 1 _ rfl, hcell 2 _ rfl⟩
theorem nums_len {t : ByteArray} {xs : List Nat} (h : numsOf t = some xs) : xs.length ≤ 256 := by
  unfold numsOf at h
  split at h
  · cases h; simp
  · split at h
    · rename_i h1; rw [wordsOf_length h]; exact h1
    · cases h
theorem softD (w : World) (k : Nat) (hk : k = w.heap.size) (o : Array Value) (t : TypeId) (j : Nat) : (w.alloc (.cells o t)).frozen? ⟨k, j, none⟩ = false := by
  subst hk
  have e : (w.alloc (.cells o t)).heap[w.heap.size]? = some (.cells o t) := heap_alloc_new w _
  simp only [World.frozen?, e]
  simp
theorem Below_drewD {B : Nat} {a w : World} (h : Below B a w) : Below B a w.drew := below_drewN h 1
set_option maxRecDepth 100000 in
set_option maxHeartbeats 4000000 in
theorem s_l08ReadDrive (t : ByteArray) (hs : t.size ≤ 1048576) (w : World) : Calls Tryz.prog 13 #[.string t] w (DrvRd t w) := by
  have HC := Lib.hid (fun W => s_l01Cut t 59 59 rfl W hs)
  have HSZ := Lib.hid (fun p (hp : p ∈ cutAll 59 t) => Nat.le_trans (cutAll_size 59 t hp) hs)
  have HTS := Lib.hid hs
  clear hs
  go_enter Tryz.func13, Tryz.ntmps13
  go_wp2_with fail
  obtain ⟨w0, hw0⟩ : ∃ w0, w0 = w.alloc (.cells #[.float .f32 0, .float .f32 0, .float .f32 0, .float .f32 0, .float .f32 0, .float .f32 0, .float .f32 0, .float .f32 0, .int .i64 0, .float .f32 0, .float .f32 0, .float .f32 0] 26) := ⟨_, rfl⟩
  have HB : Hid (Below w.heap.size w w0) := by rw [hw0]; exact (by repeat (first | exact Below.refl _ _ | assumption | refine below_drewN ?_ _ | refine below_alloc (Nat.le_refl _) ?_ _ | (refine Below.setCell ?_ (by first | exact Nat.le_refl _ | (simp; done) | (simp; omega) | omega) _) | (refine below_step (Nat.le_refl _) ?_ (by assumption))))
  have HA : Hid (zeroDr.At w0 w.heap.size) := by rw [hw0]; exact drv_top w _ rfl _ _ _ _ _ _ _ _ _ _ _ _ _
  have HS : Hid (∀ j, w0.frozen? ⟨w.heap.size, j, none⟩ = false) := by rw [hw0]; exact softD w _ rfl _ _
  rw [← hw0]
  clear hw0
  refine (HC.out w0).mono ?_
  rintro e' w1 ⟨v, rfl, hO, hb⟩
  have hR := RS_of_own hO (by have := (cutAll_len 59 t).2; have := HTS.out; omega)
  obtain ⟨g, hg⟩ : ∃ g, g = w.heap.size := ⟨_, rfl⟩
  have HB1 := Lib.hid (below_step (Nat.le_refl _) HB.out hb)
  have HA1 := Lib.hid (HA.out.below hb)
  have HS1 : Hid (∀ j, w1.frozen? ⟨g, j, none⟩ = false) := fun j => (hb.frozen (p := ⟨g, j, none⟩) (show g < _ from by rw [hg]; exact block_lt_of_cell HA.out.1.1)).trans (by rw [hg]; exact HS.out j)
  rw [← hg] at HA1
  rw [← hg]
  have HG : Hid (w.heap.size ≤ g) := by show _ ≤ _; omega
  clear hg hb hO HC HB HA HS
  by_cases hl : (cutAll 59 t).length = 3
  case neg =>
    have HNO := Lib.hid (driveOf_len hl)
    obtain ⟨p, cap, rfl, -, -⟩ := hR
    have hne : (((cutAll 59 t).length : Int) != 3) = true := by simp; omega
    have HBZ := HB1
    have hs := HS1.out
    obtain ⟨⟨c0, c1, c2, c3, c4, c5, c6, c7⟩, c8, c9, c10, c11⟩ := HA1.out
    clear hl HSZ HTS HA1 HS1
    go_wp2
    exact bodyPost_ret (v := .tuple #[drvV 0 0 0 0 0 0 0 0 0 0 0 0, .bool false]) (by simp [results, Tryz.results13, go_sem, *]) rfl (DrvRd.no HNO.out (by repeat (first | with_reducible exact HBZ.out | with_reducible refine Below.setCell ?_ HG.out _ | with_reducible refine below_drewN ?_ _)))
  case pos =>
    obtain ⟨p0, p1, p2, hcut⟩ : ∃ p0 p1 p2, cutAll 59 t = [p0, p1, p2] := by
      match cutAll 59 t, hl with
      | [a, b, c], _ => exact ⟨a, b, c, rfl⟩
    have HZ0 := HSZ.out p0 (by rw [hcut]; simp)
    have HZ1 := HSZ.out p1 (by rw [hcut]; simp)
    have HZ2 := HSZ.out p2 (by rw [hcut]; simp)
    rw [hcut] at hR
    have H3 := Lib.hid (driveOf_mk hcut)
    obtain ⟨q, o, cap, rfl, k0, k1, k2⟩ := RS_thr hR
    have HN0 := Lib.hid (fun W => s_l01NRead p0 HZ0 W)
    have HN1 := Lib.hid (fun W => s_l01Value p1 W (by omega))
    have HN2 := Lib.hid (fun W => s_l01NRead p2 HZ2 W)
    have HK1 := Lib.hid k1
    have HK2 := Lib.hid k2
    clear hl hcut hR HSZ HTS HZ0 HZ1 HZ2 k1 k2
    go_wp2_with fail
    refine (HN0.out _).mono ?_
    rintro e' w2 ⟨u0, rfl, o0, hb⟩
    have HB2 := Lib.hid (below_step (Nat.le_refl _) HB1.out hb)
    have HA2 := Lib.hid (HA1.out.below hb)
    have HS2 : Hid (∀ j, w2.frozen? ⟨g, j, none⟩ = false) := fun j => (hb.frozen (p := ⟨g, j, none⟩) (show g < _ from block_lt_of_cell HA1.out.1.1)).trans (HS1.out j)
    have O0 := Lib.hid o0
    have k1 := hcell_below HK1.out hb
    have HK3 := Lib.hid (hcell_below HK2.out hb)
    clear o0 hb HN0 HB1 HA1 HS1 HK1 HK2 k0
    go_wp2_with fail
    refine (HN1.out _).mono ?_
    rintro e' w3 ⟨rfl, hb⟩
    have HB3 := Lib.hid (below_step (Nat.le_refl _) HB2.out hb)
    have HA3 := Lib.hid (HA2.out.below hb)
    have HS3 : Hid (∀ j, w3.frozen? ⟨g, j, none⟩ = false) := fun j => (hb.frozen (p := ⟨g, j, none⟩) (show g < _ from block_lt_of_cell HA2.out.1.1)).trans (HS2.out j)
    replace O0 := Lib.hid (OF_belowN O0.out hb)
    have k2 := hcell_below HK3.out hb
    clear hb HN1 HB2 HA2 HS2 HK3 k1
    go_wp2_with fail
    refine (HN2.out _).mono ?_
    rintro e' w4 ⟨u2, rfl, o2, hb⟩
    have HBZ := Lib.hid (below_step (Nat.le_refl _) HB3.out hb)
    have HA4 := Lib.hid (HA3.out.below hb)
    have HS4 : Hid (∀ j, w4.frozen? ⟨g, j, none⟩ = false) := fun j => (hb.frozen (p := ⟨g, j, none⟩) (show g < _ from block_lt_of_cell HA3.out.1.1)).trans (HS3.out j)
    have O2 := Lib.hid o2
    replace O0 := Lib.hid (OF_belowN O0.out hb)
    clear o2 hb HN2 HA3 HS3 k2 HB3
    by_cases hall : ((numsOf p0).isSome && (decOf p1).isSome && (numsOf p2).isSome) = true
    case neg =>
      have HNO := Lib.hid (H3.out.trans (drOf_no (by simpa using hall)))
      have hs := HS4.out
      obtain ⟨⟨c0, c1, c2, c3, c4, c5, c6, c7⟩, c8, c9, c10, c11⟩ := HA4.out
      clear H3 O0 O2 HA4 HS4
      generalize (numsOf p0).isSome = b0 at *
      generalize (decOf p1).isSome = b1 at *
      generalize (numsOf p2).isSome = b2 at *
      cases b0
      · clear hall
        go_wp2
        exact bodyPost_ret (v := .tuple #[drvV 0 0 0 0 0 0 0 0 0 0 0 0, .bool false]) (by simp [results, Tryz.results13, go_sem, *]) rfl (DrvRd.no HNO.out (by repeat (first | with_reducible exact HBZ.out | with_reducible refine Below.setCell ?_ HG.out _ | with_reducible refine below_drewN ?_ _)))
      cases b1
      · clear hall
        go_wp2
        exact bodyPost_ret (v := .tuple #[drvV 0 0 0 0 0 0 0 0 0 0 0 0, .bool false]) (by simp [results, Tryz.results13, go_sem, *]) rfl (DrvRd.no HNO.out (by repeat (first | with_reducible exact HBZ.out | with_reducible refine Below.setCell ?_ HG.out _ | with_reducible refine below_drewN ?_ _)))
      cases b2
      · clear hall
        go_wp2
        exact bodyPost_ret (v := .tuple #[drvV 0 0 0 0 0 0 0 0 0 0 0 0, .bool false]) (by simp [results, Tryz.results13, go_sem, *]) rfl (DrvRd.no HNO.out (by repeat (first | with_reducible exact HBZ.out | with_reducible refine Below.setCell ?_ HG.out _ | with_reducible refine below_drewN ?_ _)))
      · exact absurd rfl hall
    case pos =>
      simp only [Bool.and_eq_true, Option.isSome_iff_exists] at hall
      obtain ⟨⟨⟨x0, h0⟩, st, h1⟩, x2, h2⟩ := hall
      rw [h0] at O0
      rw [h2] at O2
      rw [h0, h1, h2] at H3
      rw [h0, h1, h2]
      have R0 : RF w4 u0 x0 := RF_of_own (show OF _ w4 u0 x0 from O0.out) (by have := nums_len h0; omega)
      have R2 : RF w4 u2 x2 := RF_of_own (show OF _ w4 u2 x2 from O2.out) (by have := nums_len h2; omega)
      clear h0 h1 h2 O0 O2
      dsimp only [Option.isSome_some, Option.getD_some]
      by_cases hz : x0.length = 8 ∧ x2.length = 3
      case neg =>
        have HNO := Lib.hid (H3.out.trans (drOf_len (x := x0) (n := st) (y := x2) (by omega)))
        have hs := HS4.out
        obtain ⟨⟨c0, c1, c2, c3, c4, c5, c6, c7⟩, c8, c9, c10, c11⟩ := HA4.out
        obtain ⟨q0, e0, rfl, -, -⟩ := R0
        obtain ⟨q2, e2, rfl, -, -⟩ := R2
        clear H3 HA4 HS4
        by_cases h8 : x0.length = 8
        · have he8 : ((x0.length : Int) != 8) = false := by simp; omega
          have hne : ((x2.length : Int) != 3) = true := by simp; omega
          clear hz h8
          go_wp2
          exact bodyPost_ret (v := .tuple #[drvV 0 0 0 0 0 0 0 0 0 0 0 0, .bool false]) (by simp [results, Tryz.results13, go_sem, *]) rfl (DrvRd.no HNO.out (by repeat (first | with_reducible exact HBZ.out | with_reducible refine Below.setCell ?_ HG.out _ | with_reducible refine below_drewN ?_ _)))
        · have he8 : ((x0.length : Int) != 8) = true := by simp; omega
          clear hz h8
          go_wp2
          exact bodyPost_ret (v := .tuple #[drvV 0 0 0 0 0 0 0 0 0 0 0 0, .bool false]) (by simp [results, Tryz.results13, go_sem, *]) rfl (DrvRd.no HNO.out (by repeat (first | with_reducible exact HBZ.out | with_reducible refine Below.setCell ?_ HG.out _ | with_reducible refine below_drewN ?_ _)))
      case pos =>
        match x0, x2, hz with
        | [i, d, r, l, m, s, k, e], [sp, pi, en], _ =>
          obtain ⟨q0, o0, e0, rfl, K0⟩ := RF_eight R0
          obtain ⟨q2, o2, e2, rfl, K2⟩ := RF_thr R2
          have HF : Hid (driveOf t = if drvOk i d r l m s k e st sp pi en then some ⟨i, d, r, l, m, s, k, e, st, sp, pi, en⟩ else none) := H3.out
          have HK0 := Lib.hid K0
          have HK2 := Lib.hid K2
          clear H3 R0 R2 K2
          obtain ⟨k0, k1, k2, k3, k4, k5, k6, k7⟩ := K0
          go_wp2_with fail
          have HBX : Hid (∀ W, Below w4.heap.size w4 W → W.cell? ⟨q0, o0, none⟩ = some (.float .f32 i) ∧ W.cell? ⟨q0, o0 + 1, none⟩ = some (.float .f32 d) ∧ W.cell? ⟨q0, o0 + 2, none⟩ = some (.float .f32 r) ∧ W.cell? ⟨q0, o0 + 3, none⟩ = some (.float .f32 l) ∧ W.cell? ⟨q0, o0 + 4, none⟩ = some (.float .f32 m) ∧ W.cell? ⟨q0, o0 + 5, none⟩ = some (.float .f32 s) ∧ W.cell? ⟨q0, o0 + 6, none⟩ = some (.float .f32 k) ∧ W.cell? ⟨q0, o0 + 7, none⟩ = some (.float .f32 e)) :=
            fun W hb => by obtain ⟨a0, a1, a2, a3, a4, a5, a6, a7⟩ := HK0.out; exact ⟨hcell_below a0 hb, hcell_below a1 hb, hcell_below a2 hb, hcell_below a3 hb, hcell_below a4 hb, hcell_below a5 hb, hcell_below a6 hb, hcell_below a7 hb⟩
          go_region_held3 (fun w' => w'.cell? ⟨q0, o0, none⟩ = some (.float .f32 i) ∧ w'.cell? ⟨q0, o0 + 1, none⟩ = some (.float .f32 d) ∧ w'.cell? ⟨q0, o0 + 2, none⟩ = some (.float .f32 r) ∧ w'.cell? ⟨q0, o0 + 3, none⟩ = some (.float .f32 l) ∧ w'.cell? ⟨q0, o0 + 4, none⟩ = some (.float .f32 m) ∧ w'.cell? ⟨q0, o0 + 5, none⟩ = some (.float .f32 s) ∧ w'.cell? ⟨q0, o0 + 6, none⟩ = some (.float .f32 k) ∧ w'.cell? ⟨q0, o0 + 7, none⟩ = some (.float .f32 e))
            ((refine HBX.out _ ?_; repeat (first | with_reducible exact Below.refl _ _ | with_reducible refine Below_drewD ?_ | with_reducible refine below_alloc (Nat.le_refl _) ?_ _)))
            (fail)
          obtain ⟨w5, hw5⟩ : ∃ w5, w5 = (w4.alloc (.cells #[.float .f32 i, .float .f32 d, .float .f32 r, .float .f32 l, .float .f32 m, .float .f32 s, .float .f32 k, .float .f32 e] 24)).drew := ⟨_, rfl⟩
          have h45 : Below w4.heap.size w4 w5 := by rw [hw5]; exact Below_drewD (below_alloc (Nat.le_refl _) (Below.refl _ _) _)
          have HQ : Hid (PlantAt w5 w4.heap.size i d r l m s k e) := by rw [hw5]; exact plant_top w4 _ rfl i d r l m s k e 24
          have HB5 := Lib.hid (below_step (Nat.le_refl _) HBZ.out h45)
          have HA5 := Lib.hid (HA4.out.below h45)
          have HS5 : Hid (∀ j, w5.frozen? ⟨g, j, none⟩ = false) := fun j => (h45.frozen (p := ⟨g, j, none⟩) (show g < _ from block_lt_of_cell HA4.out.1.1)).trans (HS4.out j)
          have HK5 : Hid (w5.cell? ⟨q2, o2, none⟩ = some (.float .f32 sp) ∧ w5.cell? ⟨q2, o2 + 1, none⟩ = some (.float .f32 pi) ∧ w5.cell? ⟨q2, o2 + 2, none⟩ = some (.float .f32 en)) := ⟨hcell_below HK2.out.1 h45, hcell_below HK2.out.2.1 h45, hcell_below HK2.out.2.2 h45⟩
          rw [← hw5]
          obtain ⟨n1, hn1⟩ : ∃ n1, n1 = w4.heap.size := ⟨_, rfl⟩
          rw [← hn1] at HQ
          rw [← hn1]
          clear hw5 hn1 h45 HBX HK0 HK2 k0 k1 k2 k3 k4 k5 k6 k7 HA4 HS4 HBZ
          obtain ⟨k0, k1, k2, k3, k4, k5, k6, k7⟩ := HQ.out
          obtain ⟨j0, j1, j2⟩ := HK5.out
          go_wp2_with fail
          have HBX : Hid (∀ W, Below w5.heap.size w5 W → (W.cell? ⟨n1, 0, none⟩ = some (.float .f32 i) ∧ W.cell? ⟨n1, 1, none⟩ = some (.float .f32 d) ∧ W.cell? ⟨n1, 2, none⟩ = some (.float .f32 r) ∧ W.cell? ⟨n1, 3, none⟩ = some (.float .f32 l) ∧ W.cell? ⟨n1, 4, none⟩ = some (.float .f32 m) ∧ W.cell? ⟨n1, 5, none⟩ = some (.float .f32 s) ∧ W.cell? ⟨n1, 6, none⟩ = some (.float .f32 k) ∧ W.cell? ⟨n1, 7, none⟩ = some (.float .f32 e)) ∧ (W.cell? ⟨q2, o2, none⟩ = some (.float .f32 sp) ∧ W.cell? ⟨q2, o2 + 1, none⟩ = some (.float .f32 pi) ∧ W.cell? ⟨q2, o2 + 2, none⟩ = some (.float .f32 en))) :=
            fun W hb => ⟨HQ.out.below hb, hcell_below HK5.out.1 hb, hcell_below HK5.out.2.1 hb, hcell_below HK5.out.2.2 hb⟩
          go_region_held3 (fun W => (W.cell? ⟨n1, 0, none⟩ = some (.float .f32 i) ∧ W.cell? ⟨n1, 1, none⟩ = some (.float .f32 d) ∧ W.cell? ⟨n1, 2, none⟩ = some (.float .f32 r) ∧ W.cell? ⟨n1, 3, none⟩ = some (.float .f32 l) ∧ W.cell? ⟨n1, 4, none⟩ = some (.float .f32 m) ∧ W.cell? ⟨n1, 5, none⟩ = some (.float .f32 s) ∧ W.cell? ⟨n1, 6, none⟩ = some (.float .f32 k) ∧ W.cell? ⟨n1, 7, none⟩ = some (.float .f32 e)) ∧ (W.cell? ⟨q2, o2, none⟩ = some (.float .f32 sp) ∧ W.cell? ⟨q2, o2 + 1, none⟩ = some (.float .f32 pi) ∧ W.cell? ⟨q2, o2 + 2, none⟩ = some (.float .f32 en)))
            ((refine HBX.out _ ?_; repeat (first | with_reducible exact Below.refl _ _ | with_reducible refine Below_drewD ?_ | with_reducible refine below_alloc (Nat.le_refl _) ?_ _)))
            (fail)
          obtain ⟨w6, hw6⟩ : ∃ w6, w6 = (w5.alloc (.cells #[.float .f32 i, .float .f32 d, .float .f32 r, .float .f32 l, .float .f32 m, .float .f32 s, .float .f32 k, .float .f32 e, .int .i64 st, .float .f32 sp, .float .f32 pi, .float .f32 en] 26)).drew := ⟨_, rfl⟩
          have h56 : Below w5.heap.size w5 w6 := by rw [hw6]; exact Below_drewD (below_alloc (Nat.le_refl _) (Below.refl _ _) _)
          have HD : Hid (DrvAt w6 w5.heap.size i d r l m s k e st sp pi en) := by rw [hw6]; exact drv_top w5 _ rfl i d r l m s k e st sp pi en 26
          have HB6 := Lib.hid (below_step (Nat.le_refl _) HB5.out h56)
          have HA6 := Lib.hid (HA5.out.below h56)
          have hs : ∀ j, w6.frozen? ⟨g, j, none⟩ = false := fun j => (h56.frozen (p := ⟨g, j, none⟩) (show g < _ from block_lt_of_cell HA5.out.1.1)).trans (HS5.out j)
          rw [← hw6]
          obtain ⟨n2, hn2⟩ : ∃ n2, n2 = w5.heap.size := ⟨_, rfl⟩
          rw [← hn2] at HD
          rw [← hn2]
          clear hw6 hn2 h56 HBX HK5 HQ k0 k1 k2 k3 k4 k5 k6 k7 j0 j1 j2 HA5 HS5 HB5
          have HV := Lib.hid (s_l05Is_of n2 i d r l m s k e st sp pi en w6 HD.out (Lib.hid (s_l05Plant n2 i d r l m s k e w6 HD.out.1)))
          obtain ⟨⟨c0, c1, c2, c3, c4, c5, c6, c7⟩, c8, c9, c10, c11⟩ := HA6.out
          obtain ⟨⟨d0, d1, d2, d3, d4, d5, d6, d7⟩, d8, d9, d10, d11⟩ := HD.out
          cases hok : drvOk i d r l m s k e st sp pi en
          · rw [hok] at HV
            have HNO : Hid (driveOf t = none) := by show _ = _; rw [HF.out, hok]; rfl
            clear hok HF
            go_wp2_with (go_at_call 33; refine HV.out.mono ?_; rintro e' w7 ⟨rfl, n7, rfl⟩)
            exact bodyPost_ret (v := .tuple #[drvV 0 0 0 0 0 0 0 0 0 0 0 0, .bool false]) (by simp [results, Tryz.results13, go_sem, *]) rfl (DrvRd.no HNO.out (by repeat (first | with_reducible exact HB6.out | with_reducible refine Below.setCell ?_ HG.out _ | with_reducible refine below_drewN ?_ _)))
          · rw [hok] at HV
            have HYE : Hid (driveOf t = some ⟨i, d, r, l, m, s, k, e, st, sp, pi, en⟩) := by show _ = _; rw [HF.out, hok]; rfl
            clear hok HF
            go_wp2_with (go_at_call 33; refine HV.out.mono ?_; rintro e' w7 ⟨rfl, n7, rfl⟩)
            exact bodyPost_ret (v := .tuple #[drvV i d r l m s k e st sp pi en, .bool true]) (by simp [results, Tryz.results13, go_sem, *]) rfl (DrvRd.ok HYE.out (by repeat (first | with_reducible exact HB6.out | with_reducible refine Below.setCell ?_ HG.out _ | with_reducible refine below_drewN ?_ _)))
set_option maxRecDepth 100000 in
set_option maxHeartbeats 2000000 in
theorem s_ReadDrive (t : ByteArray) (hs : t.size ≤ 1048576) (w : World) : Calls Tryz.prog 5 #[.string t] w (DrvRd t w) := by
  have HN := Lib.hid (fun W => s_l08ReadDrive t hs W)
  clear hs
  obtain ⟨x, hx⟩ : ∃ x, (driveOf t).getD zeroDr = x := ⟨_, rfl⟩
  obtain ⟨b, hbb⟩ : ∃ b, (driveOf t).isSome = b := ⟨_, rfl⟩
  have HO : Hid (∀ W e W', DrvRd t W e W' ↔ (e = .returned (.tuple #[x.v, .bool b]) ∧ Below W.heap.size W W')) := fun W e W' => by unfold DrvRd; rw [hx, hbb]
  clear hx hbb
  obtain ⟨i, d, r, l, m, s, k, e, st, sp, pi, en⟩ := x
  go_enter Tryz.func5, Tryz.ntmps5
  go_wp2_with fail
  obtain ⟨w0, hw0⟩ : ∃ w0, w0 = w.alloc (.cells #[.float .f32 0, .float .f32 0, .float .f32 0, .float .f32 0, .float .f32 0, .float .f32 0, .float .f32 0, .float .f32 0, .int .i64 0, .float .f32 0, .float .f32 0, .float .f32 0] 26) := ⟨_, rfl⟩
  have HB : Hid (Below w.heap.size w w0) := by rw [hw0]; exact (by repeat (first | exact Below.refl _ _ | assumption | refine below_drewN ?_ _ | refine below_alloc (Nat.le_refl _) ?_ _ | (refine Below.setCell ?_ (by first | exact Nat.le_refl _ | (simp; done) | (simp; omega) | omega) _) | (refine below_step (Nat.le_refl _) ?_ (by assumption))))
  have HA : Hid (zeroDr.At w0 w.heap.size) := by rw [hw0]; exact drv_top w _ rfl _ _ _ _ _ _ _ _ _ _ _ _ _
  have HS : Hid (∀ j, w0.frozen? ⟨w.heap.size, j, none⟩ = false) := by rw [hw0]; exact softD w _ rfl _ _
  rw [← hw0]
  clear hw0
  refine (HN.out w0).mono ?_
  intro e' w1 hrd
  obtain ⟨rfl, hb⟩ := (HO.out _ _ _).1 hrd
  obtain ⟨g, hg⟩ : ∃ g, g = w.heap.size := ⟨_, rfl⟩
  have HBZ := Lib.hid (below_step (Nat.le_refl _) HB.out hb)
  have HA1 := Lib.hid (HA.out.below hb)
  have hs : ∀ j, w1.frozen? ⟨g, j, none⟩ = false := fun j => (hb.frozen (p := ⟨g, j, none⟩) (show g < _ from by rw [hg]; exact block_lt_of_cell HA.out.1.1)).trans (by rw [hg]; exact HS.out j)
  rw [← hg] at HA1
  rw [← hg]
  have HG : Hid (w.heap.size ≤ g) := by show _ ≤ _; omega
  clear hg hb HN HB HA HS hrd
  obtain ⟨⟨c0, c1, c2, c3, c4, c5, c6, c7⟩, c8, c9, c10, c11⟩ := HA1.out
  go_wp2
  exact bodyPost_ret (v := .tuple #[drvV i d r l m s k e st sp pi en, .bool b]) (by simp [results, Tryz.results5, go_sem, *]) rfl ((HO.out _ _ _).2 ⟨rfl, (by repeat (first | with_reducible exact HBZ.out | with_reducible refine Below.setCell ?_ HG.out _ | with_reducible refine below_drewN ?_ _))⟩)
end Go.Proofs.YtpkkgfjjnggijaaGreatDoor
