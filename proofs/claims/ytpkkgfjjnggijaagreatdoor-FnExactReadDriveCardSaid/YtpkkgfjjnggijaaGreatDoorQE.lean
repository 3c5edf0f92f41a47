/- Walks: a drive read, the program's. -/
import Derived.Test.YtpkkgfjjnggijaaGreatDoorQD
namespace Go.Proofs.YtpkkgfjjnggijaaGreatDoor
set_option linter.unusedSimpArgs false
set_option linter.unusedVariables false
open Go.RowKit Go.Fl Go.Tx Go.Lib

def GiveD (ok : Bool) (x : Dr) (w : World) (e : Ending) (w' : World) : Prop := e = .returned (.tuple #[(if ok then x else zeroDr).v, .bool ok]) ∧ Below w.heap.size w w'
theorem GiveD.no {x : Dr} {w w' : World} (hb : Below w.heap.size w w') : GiveD false x w (.returned (.tuple #[drvV 0 0 0 0 0 0 0 0 0 0 0 0, .bool false])) w' := ⟨rfl, hb⟩
theorem GiveD.ok {i d r l m s k e : Nat} {st : Int} {sp pi en : Nat} {w w' : World} (hb : Below w.heap.size w w') : GiveD true ⟨i, d, r, l, m, s, k, e, st, sp, pi, en⟩ w (.returned (.tuple #[drvV i d r l m s k e st sp pi en, .bool true])) w' := ⟨rfl, hb⟩
theorem RS_topD (w : World) (k : Nat) (hk : k = w.heap.size) (ss : List ByteArray) (t : TypeId) (hl : ss.length ≤ 281474976710656) : RS (w.alloc (.cells (ss.map Value.string).toArray t)) (.slice (some ⟨k, 0, none⟩) ss.length ss.length) ss := by
  subst hk
  refine ⟨_, _, rfl, hl, .inr ⟨_, _, rfl, fun j u hj => ?_⟩⟩
  rw [cell_of_row _ _ _ _ _ (0, 0) (heap_alloc_new w _)]
  simp only [Nat.zero_add]
  rw [← Array.getElem?_toList]; exact hj
theorem hcell_drewD {w : World} {a : Addr} {v : Option Value} (h : w.cell? a = v) : w.drew.cell? a = v := h
set_option maxHeartbeats 4000000 in
theorem i_checkedDrive (x : Dr) (w : World) : Calls Tryz.prog 17 #[x.v] w (GiveD x.ok x w) := by
  obtain ⟨i, d, r, l, m, s, k, e, st, sp, pi, en⟩ := x
  have HV := Lib.hid (fun W => i_ValidDrive i d r l m s k e st sp pi en W)
  show Calls Tryz.prog 17 #[drvV i d r l m s k e st sp pi en] w (GiveD (drvOk i d r l m s k e st sp pi en) _ w)
  generalize drvOk i d r l m s k e st sp pi en = ok at *
  cases ok
  · go_enter Tryz.func17, Tryz.ntmps17
    go_wp2_with fail
    obtain ⟨w2, hw2⟩ : ∃ w2, w2 = (w.alloc (.cells #[.float .f32 i, .float .f32 d, .float .f32 r, .float .f32 l, .float .f32 m, .float .f32 s, .float .f32 k, .float .f32 e, .int .i64 st, .float .f32 sp, .float .f32 pi, .float .f32 en] 26)).alloc (.cells #[.float .f32 0, .float .f32 0, .float .f32 0, .float .f32 0, .float .f32 0, .float .f32 0, .float .f32 0, .float .f32 0, .int .i64 0, .float .f32 0, .float .f32 0, .float .f32 0] 26) := ⟨_, rfl⟩
    have HB : Hid (Below w.heap.size w w2) := by rw [hw2]; exact (by repeat (first | exact Below.refl _ _ | assumption | refine below_drewN ?_ _ | refine below_alloc (Nat.le_refl _) ?_ _ | (refine Below.setCell ?_ (by first | exact Nat.le_refl _ | (simp; done) | (simp; omega) | omega) _) | (refine below_step (Nat.le_refl _) ?_ (by assumption))))
    have HP : Hid (DrvAt w2 w.heap.size i d r l m s k e st sp pi en) := by rw [hw2]; exact (drv_top w _ rfl i d r l m s k e st sp pi en _).below (below_alloc (Nat.le_refl _) (Below.refl _ _) _)
    have HQ : Hid (zeroDr.At w2 (w.heap.size + 1)) := by rw [hw2]; exact drv_top _ _ (by simp) 0 0 0 0 0 0 0 0 0 0 0 0 _
    have HS : Hid (∀ j, w2.frozen? ⟨w.heap.size + 1, j, none⟩ = false) := by rw [hw2]; exact softD _ _ (by simp) _ _
    rw [← hw2]
    clear hw2
    obtain ⟨g, hg⟩ : ∃ g, g = w.heap.size + 1 := ⟨_, rfl⟩
    obtain ⟨n, hn⟩ : ∃ n, n = w.heap.size := ⟨_, rfl⟩
    rw [← hg] at HQ HS
    rw [← hn] at HP
    rw [← hg, ← hn]
    have HG : Hid (w.heap.size ≤ g) := by show _ ≤ _; omega
    clear hg hn
    refine (HV.out w2).mono ?_
    rintro e' w3 ⟨rfl, hb⟩
    have HB3 := Lib.hid (below_step (Nat.le_refl _) HB.out hb)
    have hs : ∀ j, w3.frozen? ⟨g, j, none⟩ = false := fun j => (hb.frozen (p := ⟨g, j, none⟩) (show g < _ from block_lt_of_cell HQ.out.1.1)).trans (HS.out j)
    obtain ⟨⟨k0, k1, k2, k3, k4, k5, k6, k7⟩, k8, k9, k10, k11⟩ := HP.out.below hb
    obtain ⟨⟨c0, c1, c2, c3, c4, c5, c6, c7⟩, c8, c9, c10, c11⟩ := HQ.out.below hb
    clear hb HV HP HQ HS HB
    go_wp2
    exact bodyPost_ret (v := .tuple #[drvV 0 0 0 0 0 0 0 0 0 0 0 0, .bool false]) (by simp [results, Tryz.results17, go_sem, *]) rfl (GiveD.no (by repeat (first | with_reducible exact HB3.out | with_reducible refine Below.setCell ?_ HG.out _ | with_reducible refine below_drewN ?_ _)))
  · go_enter Tryz.func17, Tryz.ntmps17
    go_wp2_with fail
    obtain ⟨w2, hw2⟩ : ∃ w2, w2 = (w.alloc (.cells #[.float .f32 i, .float .f32 d, .float .f32 r, .float .f32 l, .float .f32 m, .float .f32 s, .float .f32 k, .float .f32 e, .int .i64 st, .float .f32 sp, .float .f32 pi, .float .f32 en] 26)).alloc (.cells #[.float .f32 0, .float .f32 0, .float .f32 0, .float .f32 0, .float .f32 0, .float .f32 0, .float .f32 0, .float .f32 0, .int .i64 0, .float .f32 0, .float .f32 0, .float .f32 0] 26) := ⟨_, rfl⟩
    have HB : Hid (Below w.heap.size w w2) := by rw [hw2]; exact (by repeat (first | exact Below.refl _ _ | assumption | refine below_drewN ?_ _ | refine below_alloc (Nat.le_refl _) ?_ _ | (refine Below.setCell ?_ (by first | exact Nat.le_refl _ | (simp; done) | (simp; omega) | omega) _) | (refine below_step (Nat.le_refl _) ?_ (by assumption))))
    have HP : Hid (DrvAt w2 w.heap.size i d r l m s k e st sp pi en) := by rw [hw2]; exact (drv_top w _ rfl i d r l m s k e st sp pi en _).below (below_alloc (Nat.le_refl _) (Below.refl _ _) _)
    have HQ : Hid (zeroDr.At w2 (w.heap.size + 1)) := by rw [hw2]; exact drv_top _ _ (by simp) 0 0 0 0 0 0 0 0 0 0 0 0 _
    have HS : Hid (∀ j, w2.frozen? ⟨w.heap.size + 1, j, none⟩ = false) := by rw [hw2]; exact softD _ _ (by simp) _ _
    rw [← hw2]
    clear hw2
    obtain ⟨g, hg⟩ : ∃ g, g = w.heap.size + 1 := ⟨_, rfl⟩
    obtain ⟨n, hn⟩ : ∃ n, n = w.heap.size := ⟨_, rfl⟩
    rw [← hg] at HQ HS
    rw [← hn] at HP
    rw [← hg, ← hn]
    have HG : Hid (w.heap.size ≤ g) := by show _ ≤ _; omega
    clear hg hn
    refine (HV.out w2).mono ?_
    rintro e' w3 ⟨rfl, hb⟩
    have HB3 := Lib.hid (below_step (Nat.le_refl _) HB.out hb)
    have hs : ∀ j, w3.frozen? ⟨g, j, none⟩ = false := fun j => (hb.frozen (p := ⟨g, j, none⟩) (show g < _ from block_lt_of_cell HQ.out.1.1)).trans (HS.out j)
    obtain ⟨⟨k0, k1, k2, k3, k4, k5, k6, k7⟩, k8, k9, k10, k11⟩ := HP.out.below hb
    obtain ⟨⟨c0, c1, c2, c3, c4, c5, c6, c7⟩, c8, c9, c10, c11⟩ := HQ.out.below hb
    clear hb HV HP HQ HS HB
    go_wp2
    exact bodyPost_ret (v := .tuple #[drvV i d r l m s k e st sp pi en, .bool true]) (by simp [results, Tryz.results17, go_sem, *]) rfl (GiveD.ok (by repeat (first | with_reducible exact HB3.out | with_reducible refine Below.setCell ?_ HG.out _ | with_reducible refine below_drewN ?_ _)))
end Go.Proofs.YtpkkgfjjnggijaaGreatDoor
