/- Walks: draws from bytes. -/
import Derived.Test.YtmpmnhnobgidoaaWA
import Derived.Test.YtmpmnhnobgidoaaG
import Derived.BigQuiet
namespace Go.Proofs.Ytmpmnhnobgidoaa
set_option linter.unusedSimpArgs false
set_option linter.unusedVariables false
open Go.RowKit Go.Fl Go.Lib

theorem cell_below' {w w' : World} {p : Addr} {v : Value} (h : w.cell? p = some v) (hb : Below w.heap.size w w') : w'.cell? p = some v := (hb.cell (block_lt_of_cell h)).trans h
/-- Bytes. -/
def RB (w : World) (v : Value) (bs : List Nat) : Prop := Sl w v bs.length (bs.map fun b : Nat => Value.int .u8 (b : Int)) ∧ ∀ b ∈ bs, b < 256
theorem RB_below {w w' : World} {v : Value} {bs : List Nat} (h : RB w v bs) (hb : Below w.heap.size w w') : RB w' v bs := ⟨Sl.below h.1 (.inr trivial) hb (Nat.le_refl _), h.2⟩
theorem RB_len {w : World} {v : Value} {bs : List Nat} (h : RB w v bs) : bs.length ≤ 281474976710656 := by obtain ⟨⟨_, _, _, h, _⟩, _⟩ := h; exact h
theorem offn {g i j : Nat} (h : i ≠ j) : (⟨g, i, none⟩ : Addr) ≠ ⟨g, j, none⟩ := fun e => h (by injection e)
/-- Where draws are at. -/
structure Src (w : World) (g : Nat) (v : Value) (p : Nat) : Prop where
  c0 : w.cell? ⟨g, 0, none⟩ = some v
  c1 : w.cell? ⟨g, 1, none⟩ = some (.int .i64 (p : Int))
  c2 : ∃ s : Int, w.cell? ⟨g, 2, none⟩ = some (.int .u64 s) ∧ 0 ≤ s ∧ s < 18446744073709551616
  soft : ∀ j, w.frozen? ⟨g, j, none⟩ = false
theorem Src.below {w w' : World} {g p : Nat} {v : Value} (h : Src w g v p) (hb : Below w.heap.size w w') : Src w' g v p := by
  obtain ⟨s, h2, h3, h4⟩ := h.c2
  refine ⟨cell_below' h.c0 hb, cell_below' h.c1 hb, ⟨s, cell_below' h2 hb, h3, h4⟩, fun j => ?_⟩
  have hg : g < w.heap.size := block_lt_of_cell h.c0
  have := h.soft j
  unfold World.frozen? at *
  rw [hb.block g hg]
  exact this
theorem Only_set {w w0 : World} {g j : Nat} {v : Value} (h : Only g (g + 1) w w0) : Only g (g + 1) w (w0.setCell ⟨g, j, none⟩ v) :=
  ⟨h.os, h.tape, h.output, by rw [World.size_setCell]; exact h.size, fun k hk ho => by
    rw [← h.block k hk ho]
    show (w0.heap.modify g _)[k]? = _
    rw [Array.getElem?_modify, if_neg (by omega)]⟩
theorem wrap64 (x : Int) : 0 ≤ IntKind.u64.wrap x ∧ IntKind.u64.wrap x < 18446744073709551616 := by
  rw [IntKind.wrap_u64]
  omega
theorem Only_drewN {g : Nat} {w w0 : World} (h : Only g (g + 1) w w0) (n : Nat) : Only g (g + 1) w (w0.drewN n) := ⟨h.os, h.tape, h.output, h.size, h.block⟩
theorem draw_u64 {S : Int} (h0 : 0 ≤ S) (h1 : S < 18446744073709551616) : 0 ≤ RowKit.wrap64 (bits BinOp.and IntKind.u64 (S / 1099511627776) 255) ∧ RowKit.wrap64 (bits BinOp.and IntKind.u64 (S / 1099511627776) 255) < 256 := by
  obtain ⟨n, hn⟩ : ∃ n : Nat, S / 1099511627776 = (n : Int) := ⟨(S / 1099511627776).toNat, by omega⟩
  have hn1 : n < 16777216 := by omega
  rw [hn, show (255 : Int) = ((255 : Nat) : Int) from rfl, bits_and_u64_nat _ _ (by omega) (by omega)]
  have := Nat.and_le_right (n := n) (m := 255)
  generalize n &&& 255 = k at *
  have e : RowKit.wrap64 (k : Int) = (k : Int) := by
    unfold RowKit.wrap64; omega
  rw [e]; omega
set_option maxRecDepth 100000 in
set_option maxHeartbeats 4000000 in
theorem s_next (g : Nat) (v : Value) (bs : List Nat) (p : Nat) (w : World) (hs : Src w g v p) (hb : RB w v bs) (hp : p ≤ 1000000) :
    Calls Try.prog 81 #[.pointer (some ⟨g, 0, none⟩)] w fun e w' => (∃ x : Int, e = .returned (.int .i64 x) ∧ 0 ≤ x ∧ x < 256) ∧ Src w' g v (p + 1) ∧ Only g (g + 1) w w' := by
  obtain ⟨⟨pp, cap, rfl, hm, hc⟩, hbd⟩ := hb
  obtain ⟨c0, c1, ⟨sd, c2, s0, s1⟩, sf⟩ := hs
  have hv : ∀ (W : World) (S : Int) (a : Nat), 0 ≤ S → S < 18446744073709551616 → W = ((w.drewN a).setCell ⟨g, 1, none⟩ (.int .i64 ((p : Int) + 1))).setCell ⟨g, 2, none⟩ (.int .u64 S) → ∀ n, Src (W.drewN n) g (.slice pp bs.length cap) (p + 1) ∧ Only g (g + 1) w (W.drewN n) := by
    intro W S a S0 S1 hW n
    subst hW
    have k1 : ((w.drewN a).setCell ⟨g, 1, none⟩ (.int .i64 ((p : Int) + 1))).cell? ⟨g, 2, none⟩ = some (.int .u64 sd) := (World.cell?_setCell_other _ _ _ _ (offn (by decide))).trans c2
    refine ⟨⟨?_, ?_, ⟨S, ?_, S0, S1⟩, fun j => ?_⟩, Only_drewN (Only_set (Only_set (Only_drewN (Only.refl _ _ _) a))) n⟩
    · exact (World.cell?_setCell_other _ _ _ _ (offn (by decide))).trans ((World.cell?_setCell_other _ _ _ _ (offn (by decide))).trans c0)
    · exact (World.cell?_setCell_other _ _ _ _ (offn (by decide))).trans ((World.cell?_setCell_same _ _ _ c1).trans (by simp))
    · exact World.cell?_setCell_same _ _ _ k1
    · show (((w.drewN a).setCell _ _).setCell _ _).frozen? _ = false
      rw [World.frozen?_setCell, World.frozen?_setCell]; exact sf j
  have HV := Lib.hid hv
  clear hv
  by_cases hlt : p < bs.length
  · obtain ⟨b, off, rfl, hcell⟩ := hc.resolve_left (by omega)
    have hlt' : (p : Int) < (bs.length : Int) := by omega
    have k0 : w.cell? ⟨b, off + p, none⟩ = some (.int .u8 ((bs[p] : Nat) : Int)) := hcell p _ (by simp [hlt])
    have kb := hbd bs[p] (List.getElem_mem hlt)
    generalize bs[p] = x at k0 kb
    have hx : RowKit.wrap64 (x : Int) = (x : Int) := by unfold RowKit.wrap64; omega
    clear hcell hc
    go_enter Try.func81, Try.ntmps81
    go_wp2_with fail
    go_quiet (fail)
    go_wp2_with fail
    go_quiet (fail)
    obtain ⟨nq', hnq'⟩ : ∃ n', n' = nq := ⟨_, rfl⟩
    rw [← hnq']
    clear hnq' nq
    go_wp2_with fail
    obtain ⟨S, hS⟩ : ∃ S, S = IntKind.u64.wrap (IntKind.u64.wrap (IntKind.u64.wrap (sd * 6364136223846793005) + (x : Int)) + 1442695040888963407) := ⟨_, rfl⟩
    have hS0 : 0 ≤ S ∧ S < 18446744073709551616 := by rw [hS]; exact wrap64 _
    rw [← hS]
    clear hS
    have hle : ((p : Int) + 1 ≤ (bs.length : Int)) := by omega
    go_quiet (fail)
    go_wp2_with fail
    go_ret
    refine ⟨⟨(x : Int), rfl, by omega⟩, ?_⟩
    exact HV.out _ S _ hS0.1 hS0.2 rfl _
  · have hlt' : ¬ (p : Int) < (bs.length : Int) := by omega
    go_enter Try.func81, Try.ntmps81
    go_wp2_with fail
    go_quiet (fail)
    obtain ⟨nq', hnq'⟩ : ∃ n', n' = nq := ⟨_, rfl⟩
    rw [← hnq']
    clear hnq' nq
    go_wp2_with fail
    obtain ⟨S, hS⟩ : ∃ S, S = IntKind.u64.wrap (IntKind.u64.wrap (IntKind.u64.wrap (sd * 6364136223846793005)) + 1442695040888963407) := ⟨_, rfl⟩
    have hS0 : 0 ≤ S ∧ S < 18446744073709551616 := by rw [hS]; exact wrap64 _
    rw [← hS]
    clear hS
    have hle : ¬ ((p : Int) + 1 ≤ (bs.length : Int)) := by omega
    go_quiet (fail)
    go_wp2_with fail
    have hd := draw_u64 hS0.1 hS0.2
    generalize RowKit.wrap64 (bits BinOp.and IntKind.u64 (S / 1099511627776) 255) = x at *
    go_ret
    refine ⟨⟨x, rfl, hd⟩, ?_⟩
    exact HV.out _ S _ hS0.1 hS0.2 rfl _
theorem softT (w : World) (o : Array Value) {t : TypeId} (j : Nat) : (w.alloc (.cells o t)).frozen? ⟨w.heap.size, j, none⟩ = false := by
  have e : (w.alloc (.cells o t)).heap[w.heap.size]? = some (.cells o t) := heap_alloc_new w _
  simp only [World.frozen?, e]
  simp
theorem Src.belowB {w w' : World} {B g p : Nat} {v : Value} (h : Src w g v p) (hg : g < B) (hb : Below B w w') : Src w' g v p := by
  obtain ⟨s, h2, h3, h4⟩ := h.c2
  exact ⟨(hb.cell (p := ⟨g, 0, none⟩) hg).trans h.c0, (hb.cell (p := ⟨g, 1, none⟩) hg).trans h.c1, ⟨s, (hb.cell (p := ⟨g, 2, none⟩) hg).trans h2, h3, h4⟩, fun j => (hb.frozen (p := ⟨g, j, none⟩) hg).trans (h.soft j)⟩
theorem OF_only {g : Nat} {w w' : World} {u : Value} {xs : List Nat} (h : OF (g + 1) w u xs) (ho : Only g (g + 1) w w') : OF (g + 1) w' u xs := by
  refine ho.own h fun k hk => ?_
  right
  rcases h.2 with ⟨rfl, -⟩ | ⟨b, cap, cur, rfl, hb, -⟩
  · cases hk
  · simp only [Value.ownBlock, Option.some.injEq] at hk
    omega
theorem OF_le' {B B' : Nat} {w : World} {v : Value} {xs : List Nat} (h : OF B w v xs) (hb : B' ≤ B) : OF B' w v xs :=
  ⟨h.1, h.2.imp id fun ⟨g, cap, cur, e, hb1, r⟩ => ⟨g, cap, cur, e, Nat.le_trans hb hb1, r⟩⟩
/-- A whole number's bits. -/
def fi (k : Int) : Nat := floatOfInt .f32 k
/-- Small whole numbers. -/
def Wh (xs : List Nat) (ks : List Int) : Prop := xs = ks.map fi ∧ ∀ k ∈ ks, -8 ≤ k ∧ k ≤ 8
theorem Wh.nil : Wh [] [] := ⟨rfl, fun _ h => by cases h⟩
theorem Wh.snoc {xs : List Nat} {ks : List Int} (h : Wh xs ks) {k : Int} (h1 : -8 ≤ k) (h2 : k ≤ 8) : Wh (xs ++ [fi k]) (ks ++ [k]) := by
  refine ⟨by rw [h.1]; simp, fun x hx => ?_⟩
  rcases List.mem_append.1 hx with hx | hx
  · exact h.2 x hx
  · rw [List.mem_singleton.1 hx]; exact ⟨h1, h2⟩
theorem s_l00From (v : Value) (bs : List Nat) (w : World) (hv : RB w v bs) : Calls Try.prog 46 #[v] w fun e w' => e = .returned (.pointer (some ⟨w.heap.size, 0, none⟩)) ∧ Src w' w.heap.size v 0 ∧ Below w.heap.size w w' := by
  obtain ⟨⟨pp, cap, rfl, hm, hc⟩, hbd⟩ := hv
  clear hc hbd
  go_enter Try.func46, Try.ntmps46
  go_wp2
  go_ret
  refine ⟨rfl, ⟨?_, ?_, ⟨0, ?_, by decide, by decide⟩, fun j => ?_⟩, (by repeat (first | exact Below.refl _ _ | assumption | refine below_drewN ?_ _ | refine below_alloc (Nat.le_refl _) ?_ _ | (refine Below.setCell ?_ (by first | exact Nat.le_refl _ | (simp; done) | (simp; omega) | omega) _) | (refine below_step (Nat.le_refl _) ?_ (by assumption))))⟩
  · rw [cell_of_row _ _ _ _ _ (0, 0) (heap_alloc_new w _)]; rfl
  · rw [cell_of_row _ _ _ _ _ (0, 0) (heap_alloc_new w _)]; rfl
  · rw [cell_of_row _ _ _ _ _ (0, 0) (heap_alloc_new w _)]; rfl
  · exact softT w _ j
set_option maxHeartbeats 1000000 in
theorem s_pick (g : Nat) (v : Value) (bs : List Nat) (p : Nat) (n : Int) (w : World) (hs : Src w g v p) (hb : RB w v bs) (hp : p ≤ 1000000) (h1 : 2 ≤ n) (h2 : n ≤ 200) :
    Calls Try.prog 47 #[.pointer (some ⟨g, 0, none⟩), .int .i64 n] w fun e w' => (∃ x : Int, e = .returned (.int .i64 x) ∧ 0 ≤ x ∧ x < n) ∧ Src w' g v (p + 1) ∧ Only g (g + 1) w w' := by
  have H := Lib.hid (s_next g v bs p w hs hb hp)
  clear hs hb hp
  have q1 : ¬ n ≤ 1 := by omega
  have q2 : ¬ (200 : Int) < n := by omega
  have q3 : ¬ n = 0 := by omega
  go_enter Try.func47, Try.ntmps47
  go_wp2_with fail
  refine H.out.mono ?_
  rintro e' w1 ⟨⟨x, rfl, x0, x1⟩, hS, hO⟩
  have HS := Lib.hid hS
  have HO := Lib.hid hO
  clear hS hO H
  go_wp2_with fail
  go_ret
  exact ⟨⟨_, rfl, Int.emod_nonneg _ (by omega), Int.emod_lt_of_pos _ (by omega)⟩, HS.out, HO.out⟩
set_option maxRecDepth 100000 in
set_option maxHeartbeats 1000000 in
theorem s_B10Loads (v : Value) (bs : List Nat) (w : World) (hv : RB w v bs) : Calls Try.prog 10 #[v] w fun e w' => ∃ u xs ks, e = .returned u ∧ OF w.heap.size w' u xs ∧ Wh xs ks ∧ 1 ≤ xs.length ∧ xs.length ≤ 16 ∧ Below w.heap.size w w' := by
  have HF := Lib.hid (s_l00From v bs w hv)
  have HV := Lib.hid hv
  clear hv
  go_enter Try.func10, Try.ntmps10
  go_wp2_with fail
  refine HF.out.mono ?_
  rintro e' w1 ⟨rfl, hS, hb⟩
  obtain ⟨g, hg⟩ : ∃ g, g = w.heap.size := ⟨_, rfl⟩
  rw [← hg] at hS
  rw [← hg]
  have hS1 : Src (w1.alloc (.cells #[] 26)) g v 0 := hS.below (below_alloc (Nat.le_refl _) (Below.refl _ _) _)
  have hgw1 : g < w1.heap.size := block_lt_of_cell hS.c0
  have hO1 : g + 1 ≤ w1.heap.size := hgw1
  have hO : OF (g + 1) (w1.alloc (.cells #[] 26)) (.slice (some ⟨w1.heap.size, 0, none⟩) 0 0) [] := OF_empty _ _ _ rfl (by omega) _ rfl
  have hB : Below g w (w1.alloc (.cells #[] 26)) := by rw [hg]; exact below_alloc (Nat.le_refl _) hb _
  have HS := Lib.hid hS1
  have HO := Lib.hid hO
  have HB := Lib.hid hB
  have HP := Lib.hid (fun n h1 h2 => s_pick g v bs 0 n _ hS1 (RB_below HV.out (by rw [← hg]; exact hB)) (by decide) h1 h2)
  have HG := Lib.hid hg
  clear hS hS1 hO hB hb HF hg
  go_wp2_with fail
  generalize w1.heap.size = n1 at *
  generalize w1.alloc (.cells #[] 26) = w2 at *
  refine (HP.out 16 (by decide) (by decide)).mono ?_
  rintro e' w3 ⟨⟨N, rfl, N0, N1⟩, hS, hOn⟩
  have HS3 := Lib.hid hS
  have HO3 := Lib.hid (OF_only HO.out hOn)
  have HB3 := Lib.hid (HB.out.trans (hOn.below (Nat.le_refl _) (Nat.le_of_lt (block_lt_of_cell HS.out.c0))))
  obtain ⟨N, rfl⟩ : ∃ n : Nat, N = (n : Int) := ⟨N.toNat, by omega⟩
  clear hS hOn HP HS HO HB
  go_wp2_with fail
  go_loopw [4, 5] (fun o i wr => ∃ (m p : Nat) (xs : List Nat) (ks : List Int), i = .int .i64 (m : Int) ∧ xs.length + m = 1 + N ∧ p ≤ 1 + xs.length ∧ Hid (OF (g + 1) wr o xs) ∧ Wh xs ks ∧ Hid (Src wr g v p) ∧ Hid (Below g w wr)) (fun _ i _ => (intOf i).toNat)
  case atStart => exact ⟨1 + N, 1, [], [], by simp, by simp, by simp, HO3.out, Wh.nil, HS3.out, HB3.out⟩
  case round =>
    obtain ⟨m, p, xs, ks, rfl, hm, hp, hO, hW, hS, hB⟩ := hrel
    by_cases h0 : m = 0
    · subst h0
      go_wp2
      go_ret
      exact ⟨_, xs, ks, rfl, by rw [← HG.out]; exact OF_le' hO.out (by omega), hW, by omega, by omega, by rw [← HG.out]; exact hB.out⟩
    · have h0' : (0 : Int) < (m : Int) := by omega
      have HP := Lib.hid (s_pick g v bs p 17 wr hS.out (RB_below HV.out (by rw [← HG.out]; exact hB.out)) (by omega) (by decide) (by decide))
      go_wp2_with fail
      refine HP.out.mono ?_
      rintro e' w4 ⟨⟨k, rfl, k0, k1⟩, hS4, hOn⟩
      have HO4 := Lib.hid (OF_only hO.out hOn)
      have HS4 := Lib.hid hS4
      have HB4 := Lib.hid (hB.out.trans (hOn.below (Nat.le_refl _) (Nat.le_of_lt (block_lt_of_cell hS.out.c0))))
      have hg4 : g + 1 ≤ w4.heap.size := block_lt_of_cell hS4.c0
      have HXL : Hid (xs.length ≤ 1048576) := by show _ ≤ _; omega
      clear hS4 hOn HP hO hS hB
      have hw8 : IntKind.i64.wrap (k - 8) = k - 8 := by rw [IntKind.wrap_i64]; omega
      have HOa := Lib.hid (OF_below HO4.out (below_alloc (Nat.le_refl _) (Below.refl _ _) (.cells #[.float .f32 (floatOfInt .f32 (k - 8))] 26)))
      go_wp2_with (refine wpList_appF (g + 1) xs (floatOfInt .f32 (k - 8)) rfl rfl rfl rfl HOa.out (cell_top1 _ _ rfl _ _) HXL.out (by rw [World.size_alloc]; omega) ?_; intro u w5 hO5 hB5)
      go_roundw
      case rel =>
        refine ⟨m - 1, p + 1, xs ++ [fi (k - 8)], ks ++ [k - 8], ?_, by simp; omega, by simp; omega, hO5, hW.snoc (by omega) (by omega), ?_, ?_⟩
        · congr 1; omega
        · exact HS4.out.belowB (by omega) (Below.trans (below_alloc hg4 (Below.refl _ _) _) hB5)
        · exact HB4.out.trans ((Below.trans (below_alloc hg4 (Below.refl _ _) _) hB5).mono (by omega))
      case measure => simp [intOf]; omega
end Go.Proofs.Ytmpmnhnobgidoaa
