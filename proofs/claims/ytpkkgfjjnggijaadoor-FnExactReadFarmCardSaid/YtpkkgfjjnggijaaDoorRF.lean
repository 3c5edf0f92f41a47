/- Walks: air read. -/
import Derived.Test.YtpkkgfjjnggijaaDoorRE
import Derived.Test.YtpkkgfjjnggijaaDoorHD0
import Derived.Deep.RegionHeld3
import Derived.Lib.QuietBelow
import Derived.BigQuiet
namespace Go.Proofs.YtpkkgfjjnggijaaDoor
set_option linter.unusedSimpArgs false
set_option linter.unusedVariables false
open Go.RowKit Go.Fl Go.Tx Go.Lib

/-- The air that a text tells. -/
def airOf (t : ByteArray) : Option (Nat × Nat × Nat × Nat) := match numsOf t with
  | some [a, b, c, d] => if airOk a b c d then some (a, b, c, d) else none
  | _ => none
def airVal : Option (Nat × Nat × Nat × Nat) → Value
  | some (a, b, c, d) => air a b c d
  | none => air 0 0 0 0
def AirRd (t : ByteArray) (w : World) (e : Ending) (w' : World) : Prop := e = .returned (.tuple #[airVal (airOf t), .bool (airOf t).isSome]) ∧ Below w.heap.size w w'
theorem AirRd.no {t : ByteArray} {w w' : World} (h : airOf t = none) (hb : Below w.heap.size w w') : AirRd t w (.returned (.tuple #[air 0 0 0 0, .bool false])) w' := by
  refine ⟨?_, hb⟩; rw [h]; rfl
theorem AirRd.ok {t : ByteArray} {a b c d : Nat} {w w' : World} (h : airOf t = some (a, b, c, d)) (hb : Below w.heap.size w w') : AirRd t w (.returned (.tuple #[air a b c d, .bool true])) w' := by
  refine ⟨?_, hb⟩; rw [h]; rfl
theorem softR (w : World) (k : Nat) (hk : k = w.heap.size) (o : Array Value) (t : TypeId) (j : Nat) : (w.alloc (.cells o t)).frozen? ⟨k, j, none⟩ = false := by
  subst hk
  have e : (w.alloc (.cells o t)).heap[w.heap.size]? = some (.cells o t) := heap_alloc_new w _
  simp only [World.frozen?, e]
  simp
theorem cell_drewR {w : World} {a : Addr} {v : Option Value} (h : w.cell? a = v) : w.drew.cell? a = v := h
theorem Below_drewR {B : Nat} {a w : World} (h : Below B a w) : Below B a w.drew := below_drewN h 1
theorem airOf_none {t : ByteArray} (h : numsOf t = none) : airOf t = none := by unfold airOf; rw [h]
theorem airOf_len {t : ByteArray} {xs : List Nat} (h : numsOf t = some xs) (hl : xs.length ≠ 4) : airOf t = none := by
  unfold airOf
  rw [h]
  match xs, hl with
  | [], _ | [_], _ | [_, _], _ | [_, _, _], _ => rfl
  | [_, _, _, _], hl => exact absurd rfl hl
  | _ :: _ :: _ :: _ :: _ :: _, _ => rfl
theorem airOf_four {t : ByteArray} {a b c d : Nat} (h : numsOf t = some [a, b, c, d]) : airOf t = if airOk a b c d then some (a, b, c, d) else none := by unfold airOf; rw [h]
theorem numsOf_len {t : ByteArray} {xs : List Nat} (h : numsOf t = some xs) : xs.length ≤ 256 := by
  unfold numsOf at h
  split at h
  · cases h; simp
  · split at h
    · rw [wordsOf_length h]; assumption
    · cases h
theorem numsOf_bd {t : ByteArray} {xs : List Nat} (h : numsOf t = some xs) : Bd xs := by
  unfold numsOf at h
  split at h
  · cases h; exact fun x hx => by simp at hx
  · split at h
    · exact wordsOf_bd h
    · cases h
theorem RF_four {w : World} {v : Value} {a b c d : Nat} (h : RF w v [a, b, c, d]) : ∃ g o cap, v = .slice (some ⟨g, o, none⟩) 4 cap ∧ w.cell? ⟨g, o, none⟩ = some (.float .f32 a) ∧ w.cell? ⟨g, o + 1, none⟩ = some (.float .f32 b) ∧ w.cell? ⟨g, o + 2, none⟩ = some (.float .f32 c) ∧ w.cell? ⟨g, o + 3, none⟩ = some (.float .f32 d) := by
  obtain ⟨p, cap, rfl, hm, hc⟩ := h
  obtain ⟨g, o, rfl, hcell⟩ := hc.resolve_left (by simp)
  exact ⟨g, o, cap, rfl, hcell 0 _ rfl, hcell 1 _ rfl, hcell 2 _ rfl, hcell 3 _ rfl⟩
set_option maxRecDepth 100000 in
set_option maxHeartbeats 2000000 in
theorem s_l08ReadAir (t : ByteArray) (hs : t.size ≤ 1048576) (w : World) : Calls Tryd.prog 19 #[.string t] w (AirRd t w) := by
  have HN := Lib.hid (fun W => s_l01NRead t hs W)
  clear hs
  go_enter Tryd.func19, Tryd.ntmps19
  go_wp2_with fail
  obtain ⟨w0, hw0⟩ : ∃ w0, w0 = w.alloc (.cells #[.float .f32 0, .float .f32 0, .float .f32 0, .float .f32 0] 24) := ⟨_, rfl⟩
  have HB : Hid (Below w.heap.size w w0) := by rw [hw0]; exact (by repeat (first | exact Below.refl _ _ | assumption | refine below_drewN ?_ _ | refine below_alloc (Nat.le_refl _) ?_ _ | (refine Below.setCell ?_ (by first | exact Nat.le_refl _ | (simp; done) | (simp; omega) | omega) _) | (refine below_step (Nat.le_refl _) ?_ (by assumption))))
  have HA : Hid (AirAt w0 w.heap.size 0 0 0 0) := by rw [hw0]; exact air_top w _ rfl 0 0 0 0 _
  rw [← hw0]
  refine (HN.out _).mono ?_
  rintro e' w1 ⟨u, rfl, hu, hb⟩
  have HS : Hid (∀ j, w1.frozen? ⟨w.heap.size, j, none⟩ = false) := fun j => (hb.frozen (p := ⟨w.heap.size, j, none⟩) (by rw [hw0]; simp)).trans (by rw [hw0]; exact softR w _ rfl _ _ j)
  have HA1 := Lib.hid (HA.out.below hb)
  have HB1 := Lib.hid (below_step (Nat.le_refl _) HB.out hb)
  obtain ⟨c0, c1, c2, c3⟩ := HA1.out
  obtain ⟨g, hg⟩ : ∃ g, g = w.heap.size := ⟨_, rfl⟩
  have hs : ∀ j, w1.frozen? ⟨g, j, none⟩ = false := by rw [hg]; exact HS.out
  rw [← hg] at c0 c1 c2 c3 HA1
  rw [← hg]
  have HG := Lib.hid hg
  clear hw0 hb HA HB hg HS
  cases hnum : numsOf t with
  | none =>
    have HNO := Lib.hid (airOf_none hnum)
    clear hu
    clear hnum
    dsimp only [Option.isSome_none, Option.isSome_some]
    go_wp2
    exact bodyPost_ret (v := .tuple #[air 0 0 0 0, .bool false]) (by simp [results, Tryd.results19, go_sem, *]) rfl (AirRd.no HNO.out (by repeat (first | exact HB1.out | refine Below.setCell ?_ (by show _ ≤ g; rw [HG.out]; exact Nat.le_refl _) _ | refine below_drewN ?_ _)))
  | some xs =>
    have hR : RF w1 u xs := RF_of_own (show OF w0.heap.size w1 u xs by rw [hnum] at hu; exact hu) (by have := numsOf_len hnum; omega)
    clear hu
    by_cases hl : xs.length = 4
    case neg =>
      have HNO := Lib.hid (airOf_len hnum hl)
      obtain ⟨p, cap, rfl, -, -⟩ := hR
      have hne : ((xs.length : Int) != 4) = true := by simp; omega
      clear hnum hl
      dsimp only [Option.isSome_none, Option.isSome_some]
      go_wp2
      exact bodyPost_ret (v := .tuple #[air 0 0 0 0, .bool false]) (by simp [results, Tryd.results19, go_sem, *]) rfl (AirRd.no HNO.out (by repeat (first | exact HB1.out | refine Below.setCell ?_ (by show _ ≤ g; rw [HG.out]; exact Nat.le_refl _) _ | refine below_drewN ?_ _)))
    case pos =>
      match xs, hl with
      | [a, b, c, d], _ =>
        obtain ⟨q, o, cap, rfl, k0, k1, k2, k3⟩ := RF_four hR
        have HF := Lib.hid (airOf_four hnum)
        have HK : Hid (w1.cell? ⟨q, o, none⟩ = some (.float .f32 a) ∧ w1.cell? ⟨q, o + 1, none⟩ = some (.float .f32 b) ∧ w1.cell? ⟨q, o + 2, none⟩ = some (.float .f32 c) ∧ w1.cell? ⟨q, o + 3, none⟩ = some (.float .f32 d)) := ⟨k0, k1, k2, k3⟩
        clear hnum hR
        dsimp only [Option.isSome_none, Option.isSome_some]
        go_wp2_with fail
        have HBX : ∀ W, Below w1.heap.size w1 W → W.cell? ⟨q, o, none⟩ = some (.float .f32 a) ∧ W.cell? ⟨q, o + 1, none⟩ = some (.float .f32 b) ∧ W.cell? ⟨q, o + 2, none⟩ = some (.float .f32 c) ∧ W.cell? ⟨q, o + 3, none⟩ = some (.float .f32 d) := fun W hb => ⟨hcell_below k0 hb, hcell_below k1 hb, hcell_below k2 hb, hcell_below k3 hb⟩
        go_region_held3 (fun w' => w'.cell? ⟨q, o, none⟩ = some (.float .f32 a) ∧ w'.cell? ⟨q, o + 1, none⟩ = some (.float .f32 b) ∧ w'.cell? ⟨q, o + 2, none⟩ = some (.float .f32 c) ∧ w'.cell? ⟨q, o + 3, none⟩ = some (.float .f32 d))
          ((refine HBX _ ?_; repeat (first | with_reducible exact Below.refl _ _ | with_reducible refine Below_drewR ?_ | with_reducible refine below_alloc (Nat.le_refl _) ?_ _)))
          (fail)
        obtain ⟨w2, hw2⟩ : ∃ w2, w2 = (w1.alloc (.cells #[.float .f32 a, .float .f32 b, .float .f32 c, .float .f32 d] 24)).drew := ⟨_, rfl⟩
        have h12 : Below w1.heap.size w1 w2 := by rw [hw2]; exact Below_drewR (below_alloc (Nat.le_refl _) (Below.refl _ _) _)
        have HQ : Hid (AirAt w2 w1.heap.size a b c d) := by rw [hw2]; exact air_top w1 _ rfl a b c d 24
        have HA2 := Lib.hid (HA1.out.below h12)
        have HB2 := Lib.hid (below_step (Nat.le_refl _) HB1.out h12)
        have hs2 : ∀ j, w2.frozen? ⟨g, j, none⟩ = false := fun j => (h12.frozen (p := ⟨g, j, none⟩) (show g < _ from block_lt_of_cell c0)).trans (hs j)
        rw [← hw2]
        clear hw2 HBX HK k0 k1 k2 k3 h12 hs c0 c1 c2 c3 HA1
        obtain ⟨n1, hn1⟩ : ∃ n1, n1 = w1.heap.size := ⟨_, rfl⟩
        rw [← hn1] at HQ
        rw [← hn1]
        clear hn1
        have HV := Lib.hid (s_l04Is n1 a b c d w2 HQ.out)
        obtain ⟨c0, c1, c2, c3⟩ := HA2.out
        obtain ⟨e0, e1, e2, e3⟩ := HQ.out
        cases hok : airOk a b c d
        · rw [hok] at HV
          have HNO : Hid (airOf t = none) := by show _ = _; rw [HF.out, hok]; rfl
          clear hok HF
          go_wp2_with (go_at_call 32; refine HV.out.mono ?_; rintro e' w3 ⟨rfl, n3, rfl⟩)
          exact bodyPost_ret (v := .tuple #[air 0 0 0 0, .bool false]) (by simp [results, Tryd.results19, go_sem, *]) rfl (AirRd.no HNO.out (by repeat (first | exact HB2.out | refine Below.setCell ?_ (by show _ ≤ g; rw [HG.out]; exact Nat.le_refl _) _ | refine below_drewN ?_ _)))
        · rw [hok] at HV
          have HYE : Hid (airOf t = some (a, b, c, d)) := by show _ = _; rw [HF.out, hok]; rfl
          clear hok HF
          go_wp2_with (go_at_call 32; refine HV.out.mono ?_; rintro e' w3 ⟨rfl, n3, rfl⟩)
          exact bodyPost_ret (v := .tuple #[air a b c d, .bool true]) (by simp [results, Tryd.results19, go_sem, *]) rfl (AirRd.ok HYE.out (by repeat (first | exact HB2.out | refine Below.setCell ?_ (by show _ ≤ g; rw [HG.out]; exact Nat.le_refl _) _ | refine below_drewN ?_ _)))
theorem s_ReadAir (t : ByteArray) (hs : t.size ≤ 1048576) (w : World) : Calls Tryd.prog 6 #[.string t] w (AirRd t w) := by
  have HN := Lib.hid (fun W => s_l08ReadAir t hs W)
  clear hs
  go_enter Tryd.func6, Tryd.ntmps6
  go_wp2_with fail
  obtain ⟨w0, hw0⟩ : ∃ w0, w0 = w.alloc (.cells #[.float .f32 0, .float .f32 0, .float .f32 0, .float .f32 0] 24) := ⟨_, rfl⟩
  have HB : Hid (Below w.heap.size w w0) := by rw [hw0]; exact (by repeat (first | exact Below.refl _ _ | assumption | refine below_drewN ?_ _ | refine below_alloc (Nat.le_refl _) ?_ _ | (refine Below.setCell ?_ (by first | exact Nat.le_refl _ | (simp; done) | (simp; omega) | omega) _) | (refine below_step (Nat.le_refl _) ?_ (by assumption))))
  have HA : Hid (AirAt w0 w.heap.size 0 0 0 0) := by rw [hw0]; exact air_top w _ rfl 0 0 0 0 _
  rw [← hw0]
  refine (HN.out _).mono ?_
  rintro e' w1 ⟨rfl, hb⟩
  have hs : ∀ j, w1.frozen? ⟨w.heap.size, j, none⟩ = false := fun j => (hb.frozen (p := ⟨w.heap.size, j, none⟩) (by rw [hw0]; simp)).trans (by rw [hw0]; exact softR w _ rfl _ _ j)
  have HB1 := Lib.hid (below_step (Nat.le_refl _) HB.out hb)
  obtain ⟨c0, c1, c2, c3⟩ := HA.out.below hb
  obtain ⟨g, hg⟩ : ∃ g, g = w.heap.size := ⟨_, rfl⟩
  rw [← hg] at hs c0 c1 c2 c3
  rw [← hg]
  have HG := Lib.hid hg
  clear hw0 hb HA HB hg
  cases hao : airOf t with
  | none =>
    have HNO := Lib.hid hao
    clear hao
    dsimp only [airVal, Option.isSome_none]
    go_wp2
    exact bodyPost_ret (v := .tuple #[air 0 0 0 0, .bool false]) (by simp [results, Tryd.results6, go_sem, *]) rfl (AirRd.no HNO.out (by repeat (first | exact HB1.out | refine Below.setCell ?_ (by show _ ≤ g; rw [HG.out]; exact Nat.le_refl _) _ | refine below_drewN ?_ _)))
  | some x =>
    obtain ⟨a, b, c, d⟩ := x
    have HYE := Lib.hid hao
    clear hao
    dsimp only [airVal, Option.isSome_some]
    go_wp2
    exact bodyPost_ret (v := .tuple #[air a b c d, .bool true]) (by simp [results, Tryd.results6, go_sem, *]) rfl (AirRd.ok HYE.out (by repeat (first | exact HB1.out | refine Below.setCell ?_ (by show _ ≤ g; rw [HG.out]; exact Nat.le_refl _) _ | refine below_drewN ?_ _)))
set_option maxRecDepth 100000 in
set_option maxHeartbeats 2000000 in
theorem i_ReadAir (t : ByteArray) (hs : t.size ≤ 1048576) (w : World) (hgl : RG w) : Calls Tryd.prog 7 #[.string t] w (AirRd t w) := by
  have HN := Lib.hid (fun W hg => i_ReadNumbers t hs W hg)
  have HGL := Lib.hid hgl
  clear hs hgl
  go_enter Tryd.func7, Tryd.ntmps7
  go_wp2_with fail
  obtain ⟨w0, hw0⟩ : ∃ w0, w0 = w.alloc (.cells #[.float .f32 0, .float .f32 0, .float .f32 0, .float .f32 0] 24) := ⟨_, rfl⟩
  have HB : Hid (Below w.heap.size w w0) := by rw [hw0]; exact (by repeat (first | exact Below.refl _ _ | assumption | refine below_drewN ?_ _ | refine below_alloc (Nat.le_refl _) ?_ _ | (refine Below.setCell ?_ (by first | exact Nat.le_refl _ | (simp; done) | (simp; omega) | omega) _) | (refine below_step (Nat.le_refl _) ?_ (by assumption))))
  have HA : Hid (AirAt w0 w.heap.size 0 0 0 0) := by rw [hw0]; exact air_top w _ rfl 0 0 0 0 _
  have hsz : w0.heap.size = w.heap.size + 1 := by rw [hw0]; simp
  rw [← hw0]
  refine (HN.out _ (HGL.out.below HB.out)).mono ?_
  rintro e' w1 ⟨u, rfl, hu, hb⟩
  have hs : ∀ j, w1.frozen? ⟨w.heap.size, j, none⟩ = false := fun j => (hb.frozen (p := ⟨w.heap.size, j, none⟩) (by rw [hw0]; simp)).trans (by rw [hw0]; exact softR w _ rfl _ _ j)
  have HA1 := Lib.hid (HA.out.below hb)
  have HB1 := Lib.hid (below_step (Nat.le_refl _) HB.out hb)
  rw [hsz] at hu
  obtain ⟨g, hg⟩ : ∃ g, g = w.heap.size := ⟨_, rfl⟩
  rw [← hg] at hs HA1 hu
  rw [← hg]
  have HG := Lib.hid hg
  clear hw0 hb HA HB hg hsz HN HGL
  cases hnum : numsOf t with
  | none =>
    have HNO := Lib.hid (airOf_none hnum)
    clear hu hnum
    dsimp only [Option.isSome_none, Option.isSome_some]
    go_wp2_with fail
    refine wp_region_quiet_below (by kernel_rfl) (by kernel_rfl) ?_
    repeat (go_big_quiet_step (fail))
    refine wpQuiet_nil ?_
    intro _ hw'
    obtain ⟨⟨dq, osq⟩, hw''⟩ := hw'
    subst hw''
    have h12 := below_regrown w1 dq osq
    obtain ⟨w2, hw2⟩ : ∃ w2, w2 = Sort.grow (redrawn w1 dq) osq := ⟨_, rfl⟩
    rw [← hw2] at h12
    rw [← hw2]
    clear hw2
    have HB2 := Lib.hid (below_step (Nat.le_refl _) HB1.out h12)
    have hs2 : ∀ j, w2.frozen? ⟨g, j, none⟩ = false := fun j => (h12.frozen (p := ⟨g, j, none⟩) (show g < _ from block_lt_of_cell HA1.out.1)).trans (hs j)
    obtain ⟨c0, c1, c2, c3⟩ := HA1.out.below h12
    clear h12 hs HA1
    go_wp2
    exact bodyPost_ret (v := .tuple #[air 0 0 0 0, .bool false]) (by simp [results, Tryd.results7, go_sem, *]) rfl (AirRd.no HNO.out (by repeat (first | exact HB2.out | refine Below.setCell ?_ (by show _ ≤ g; rw [HG.out]; exact Nat.le_refl _) _ | refine below_drewN ?_ _)))
  | some xs =>
    replace hu : OF (g + 1) w1 u xs := by rw [hnum] at hu; exact hu
    have hR : RF w1 u xs := RF_of_own hu (by have := numsOf_len hnum; omega)
    by_cases hl : xs.length = 4
    case neg =>
      have HNO := Lib.hid (airOf_len hnum hl)
      obtain ⟨p, cap, rfl, -, -⟩ := hR
      have hne : ((xs.length : Int) != 4) = true := by simp; omega
      clear hnum hl hu
      dsimp only [Option.isSome_none, Option.isSome_some]
      go_wp2_with fail
      refine wp_region_quiet_below (by kernel_rfl) (by kernel_rfl) ?_
      repeat (go_big_quiet_step (fail))
      refine wpQuiet_nil ?_
      intro _ hw'
      obtain ⟨⟨dq, osq⟩, hw''⟩ := hw'
      subst hw''
      have h12 := below_regrown w1 dq osq
      obtain ⟨w2, hw2⟩ : ∃ w2, w2 = Sort.grow (redrawn w1 dq) osq := ⟨_, rfl⟩
      rw [← hw2] at h12
      rw [← hw2]
      clear hw2
      have HB2 := Lib.hid (below_step (Nat.le_refl _) HB1.out h12)
      have hs2 : ∀ j, w2.frozen? ⟨g, j, none⟩ = false := fun j => (h12.frozen (p := ⟨g, j, none⟩) (show g < _ from block_lt_of_cell HA1.out.1)).trans (hs j)
      obtain ⟨c0, c1, c2, c3⟩ := HA1.out.below h12
      clear h12 hs HA1
      go_wp2
      exact bodyPost_ret (v := .tuple #[air 0 0 0 0, .bool false]) (by simp [results, Tryd.results7, go_sem, *]) rfl (AirRd.no HNO.out (by repeat (first | exact HB2.out | refine Below.setCell ?_ (by show _ ≤ g; rw [HG.out]; exact Nat.le_refl _) _ | refine below_drewN ?_ _)))
    case pos =>
      match xs, hl with
      | [a, b, c, d], _ =>
        obtain ⟨q, o, cap, rfl, k0, k1, k2, k3⟩ := RF_four hR
        have hqg : q ≠ g := by have := (World.ownsRow.lt hu q rfl).1; omega
        have HQG : Hid (∀ i j, (⟨g, i, none⟩ : Addr) ≠ ⟨q, j, none⟩) := fun i j e => by cases e; exact hqg rfl
        have HF := Lib.hid (airOf_four hnum)
        have HK : Hid (w1.cell? ⟨q, o, none⟩ = some (.float .f32 a) ∧ w1.cell? ⟨q, o + 1, none⟩ = some (.float .f32 b) ∧ w1.cell? ⟨q, o + 2, none⟩ = some (.float .f32 c) ∧ w1.cell? ⟨q, o + 3, none⟩ = some (.float .f32 d)) := ⟨k0, k1, k2, k3⟩
        have r0 := cell_regrown k0
        have r1 := cell_regrown k1
        have r2 := cell_regrown k2
        have r3 := cell_regrown k3
        have HV := Lib.hid (fun d' os => Calls.regrown_of (i_ValidAir a b c d (Sort.grow (redrawn w1 d') os)))
        clear hnum hR hu hqg k0 k1 k2 k3
        dsimp only [Option.isSome_none, Option.isSome_some]
        cases hok : airOk a b c d
        · rw [hok] at HV
          have HNO : Hid (airOf t = none) := by show _ = _; rw [HF.out, hok]; rfl
          clear hok HF
          go_wp2_with fail
          refine wp_region_quiet_below (by kernel_rfl) (by kernel_rfl) ?_
          repeat (go_big_quiet_step (with_reducible exact HV.out _ _))
          refine wpQuiet_nil ?_
          intro _ hw'
          obtain ⟨⟨dq, osq⟩, hw''⟩ := hw'
          subst hw''
          have h12 := below_regrown w1 dq osq
          obtain ⟨w2, hw2⟩ : ∃ w2, w2 = Sort.grow (redrawn w1 dq) osq := ⟨_, rfl⟩
          rw [← hw2] at h12
          rw [← hw2]
          clear hw2
          have HB2 := Lib.hid (below_step (Nat.le_refl _) HB1.out h12)
          have hs2 : ∀ j, w2.frozen? ⟨g, j, none⟩ = false := fun j => (h12.frozen (p := ⟨g, j, none⟩) (show g < _ from block_lt_of_cell HA1.out.1)).trans (hs j)
          obtain ⟨c0, c1, c2, c3⟩ := HA1.out.below h12
          clear h12 hs HA1 r0 r1 r2 r3
          go_wp2
          exact bodyPost_ret (v := .tuple #[air 0 0 0 0, .bool false]) (by simp [results, Tryd.results7, go_sem, *]) rfl (AirRd.no HNO.out (by repeat (first | exact HB2.out | refine Below.setCell ?_ (by show _ ≤ g; rw [HG.out]; exact Nat.le_refl _) _ | refine below_drewN ?_ _)))
        · rw [hok] at HV
          have HYE : Hid (airOf t = some (a, b, c, d)) := by show _ = _; rw [HF.out, hok]; rfl
          clear hok HF
          go_wp2_with fail
          refine wp_region_quiet_below (by kernel_rfl) (by kernel_rfl) ?_
          repeat (go_big_quiet_step (with_reducible exact HV.out _ _))
          refine wpQuiet_nil ?_
          intro _ hw'
          obtain ⟨⟨dq, osq⟩, hw''⟩ := hw'
          subst hw''
          have h12 := below_regrown w1 dq osq
          obtain ⟨w2, hw2⟩ : ∃ w2, w2 = Sort.grow (redrawn w1 dq) osq := ⟨_, rfl⟩
          rw [← hw2] at h12
          rw [← hw2]
          clear hw2
          have HB2 := Lib.hid (below_step (Nat.le_refl _) HB1.out h12)
          have hs2 : ∀ j, w2.frozen? ⟨g, j, none⟩ = false := fun j => (h12.frozen (p := ⟨g, j, none⟩) (show g < _ from block_lt_of_cell HA1.out.1)).trans (hs j)
          obtain ⟨c0, c1, c2, c3⟩ := HA1.out.below h12
          have m0 := hcell_below HK.out.1 h12
          have m1 := hcell_below HK.out.2.1 h12
          have m2 := hcell_below HK.out.2.2.1 h12
          have m3 := hcell_below HK.out.2.2.2 h12
          have d0 : w2.drew.cell? _ = _ := m0
          have d1 : w2.drew.cell? _ = _ := m1
          have d2 : w2.drew.cell? _ = _ := m2
          have d3 : w2.drew.cell? _ = _ := m3
          clear h12 hs HA1 r0 r1 r2 r3 HK HV
          go_wp2_with fail
          go_region_held3 (fun w' => w'.cell? ⟨q, o, none⟩ = some (.float .f32 a) ∧ w'.cell? ⟨q, o + 1, none⟩ = some (.float .f32 b) ∧ w'.cell? ⟨q, o + 2, none⟩ = some (.float .f32 c) ∧ w'.cell? ⟨q, o + 3, none⟩ = some (.float .f32 d))
            ((refine ⟨?_, ?_, ?_, ?_⟩ <;> (repeat (first | with_reducible exact d0 | with_reducible exact d1 | with_reducible exact d2 | with_reducible exact d3 | with_reducible exact m0 | with_reducible exact m1 | with_reducible exact m2 | with_reducible exact m3 | with_reducible refine (World.cell?_setCell_other _ _ _ _ (HQG.out _ _)).trans ?_ | with_reducible refine cell_drewR ?_))))
            (fail)
          go_wp2
          exact bodyPost_ret (v := .tuple #[air a b c d, .bool true]) (by simp [results, Tryd.results7, go_sem, *]) rfl (AirRd.ok HYE.out (by repeat (first | exact HB2.out | refine Below.setCell ?_ (by show _ ≤ g; rw [HG.out]; exact Nat.le_refl _) _ | refine Below_drewR ?_ | refine below_drewN ?_ _)))
end Go.Proofs.YtpkkgfjjnggijaaDoor
