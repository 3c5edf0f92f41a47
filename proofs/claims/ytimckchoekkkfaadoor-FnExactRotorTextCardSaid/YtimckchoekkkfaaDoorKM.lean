/- Walks: the text of a rotor. -/
import Derived.Test.YtimckchoekkkfaaDoorKL
import Derived.StillTailTactics
import Derived.Test.YtimckchoekkkfaaDoorHGD
namespace Go.Proofs.YtimckchoekkkfaaDoor
set_option linter.unusedSimpArgs false
set_option linter.unusedVariables false
open Go.RowKit Go.Fl Go.Lib Go.Tx

/-- The numbers of stations. -/
def staF (cs : List Sta) : List Nat := cs.flatMap fun s => [s.ra, s.ch, s.tw]
theorem staF_succ (cs : List Sta) (k : Nat) (h : k < cs.length) : staF (cs.take (k + 1)) = staF (cs.take k) ++ [cs[k].ra, cs[k].ch, cs[k].tw] := by
  unfold staF
  rw [List.take_succ_eq_append_getElem h, List.flatMap_append]
  simp
theorem staF_len (cs : List Sta) : (staF cs).length = cs.length * 3 := by
  induction cs with
  | nil => rfl
  | cons s r ih =>
    show ([s.ra, s.ch, s.tw] ++ staF r).length = _
    rw [List.length_append, ih]
    simp; omega
def rotB (a l d : List Nat) (cs : List Sta) (c : Int) (hub tip : Nat) : ByteArray := profB a l d ++ ⟨#[59]⟩ ++ textB (staF cs) ++ ⟨#[59]⟩ ++ decB c ++ ⟨#[59]⟩ ++ textB [hub, tip]
theorem cells3 {w : World} {g ra ch tw : Nat} (h0 : w.cell? ⟨g, 0, none⟩ = some (.float .f32 ra)) (h1 : w.cell? ⟨g, 1, none⟩ = some (.float .f32 ch)) (h2 : w.cell? ⟨g, 2, none⟩ = some (.float .f32 tw)) : ∀ j v, (([ra, ch, tw] : List Nat).map (Value.float .f32))[j]? = some v → w.cell? ⟨g, 0 + j, none⟩ = some v := by
  intro j v hj
  match j, hj with
  | 0, hj => simp at hj; subst hj; exact h0
  | 1, hj => simp at hj; subst hj; exact h1
  | 2, hj => simp at hj; subst hj; exact h2
  | j + 3, hj => simp at hj
theorem OF_emptyK (B : Nat) (w : World) (k : Nat) (hk : k = w.heap.size) (hB : B ≤ w.heap.size) (t : TypeId) (ht : t = 22) : OF B (w.alloc (.cells #[] t)) (.slice (some ⟨k, 0, none⟩) 0 0) [] := by
  subst hk ht
  exact World.ownsRow_lit w #[] 0 hB (by unfold maxLen; omega) rfl
theorem textB_small (xs : List Nat) (n : Nat) (h : xs.length ≤ n) : (textB xs).size ≤ 9 * n + 4 := Nat.le_trans (textB_size xs) (by omega)
theorem profB_size {a l d : List Nat} (h1 : a.length ≤ 24) (h2 : l.length ≤ 24) (h3 : d.length ≤ 24) : (profB a l d).size ≤ 700 := by
  have e1 := textB_small a 24 h1
  have e2 := textB_small l 24 h2
  have e3 := textB_small d 24 h3
  unfold profB
  simp only [ByteArray.size_append]
  show (textB a).size + 1 + (textB l).size + 1 + (textB d).size ≤ 700
  omega
theorem decB_le6 {n : Int} (h0 : 0 ≤ n) (h1 : n ≤ 65002) : (decB n).size ≤ 21 := (decB_size n h0 h1).2
set_option maxRecDepth 100000 in
set_option maxHeartbeats 4000000 in
theorem s_l08Rotor (g : Nat) (va vl vd vs : Value) (a l d : List Nat) (cs : List Sta) (c : Int) (hub tip : Nat) (w : World) (hp : RotAt w g va vl vd vs c hub tip) (ha : RF w va a) (hl : RF w vl l) (hd : RF w vd d) (hs : RT w vs cs)
    (ba : Bd a) (bl : Bd l) (bd : Bd d) (bs : Bd (staF cs)) (bz : Bd [hub, tip]) (la : a.length ≤ 24) (ll : l.length ≤ 24) (ld : d.length ≤ 24) (ls : cs.length ≤ 12) (hc0 : 1 ≤ c) (hc1 : c ≤ 6) :
    Calls Tryd.prog 52 #[.pointer (some ⟨g, 0, none⟩)] w fun e' w' => e' = .returned (.string (rotB a l d cs c hub tip)) ∧ Below w.heap.size w w' := by
  have HR := Lib.hid hp
  have H1 := Lib.hid (fun W (hb : Below w.heap.size w W) => s_l08Profile g va vl vd a l d W (hp.1.below hb) (RF_below ha hb) (RF_below hl hb) (RF_below hd hb) ba bl bd la ll ld)
  have H2 := Lib.hid (fun W v (h : RF W v (staF cs)) => s_l01NText v (staF cs) W h bs (by rw [staF_len]; omega))
  have H3 := Lib.hid (fun W => s_l01Dec c W (by omega) (by omega))
  have H4 := Lib.hid (fun W v (h : RF W v [hub, tip]) => s_l01NText v [hub, tip] W h bz (by simp))
  have z1 := profB_size la ll ld
  have z2 := textB_small (staF cs) 36 (by rw [staF_len]; omega)
  have z3 := decB_le6 (n := c) (by omega) (by omega)
  have z4 := textB_small [hub, tip] 2 (by simp)
  have HFIN : Hid (rotB a l d cs c hub tip = profB a l d ++ ⟨#[59]⟩ ++ textB (staF cs) ++ ⟨#[59]⟩ ++ decB c ++ ⟨#[59]⟩ ++ textB [hub, tip]) := rfl
  generalize profB a l d = T1 at *
  generalize textB (staF cs) = T2 at *
  generalize decB c = T3 at *
  generalize textB [hub, tip] = T4 at *
  have q1 : ¬ 9223372036854775807 < T1.size + 1 := by omega
  have q2 : ¬ 9223372036854775807 < T1.size + 1 + T2.size := by omega
  have q3 : ¬ 9223372036854775807 < T1.size + 1 + T2.size + 1 := by omega
  have q4 : ¬ 9223372036854775807 < T1.size + 1 + T2.size + 1 + T3.size := by omega
  have q5 : ¬ 9223372036854775807 < T1.size + 1 + T2.size + 1 + T3.size + 1 := by omega
  have q6 : ¬ 9223372036854775807 < T1.size + 1 + T2.size + 1 + T3.size + 1 + T4.size := by omega
  have LS := Lib.hid ls
  obtain ⟨ps, cp, rfl, hms, hcs⟩ := hs
  have HC := Lib.hid hcs
  clear ha hl hd ba bl bd bs bz z1 z2 z3 z4 la ll ld ls hc0 hc1 hp hcs
  go_enter Tryd.func52, Tryd.ntmps52
  go_wp2_with fail
  go_loopw [3, 4, 5] (fun t i _ wr => ∃ k : Nat, k ≤ cs.length ∧ i = .int .i64 k ∧ OF w.heap.size wr t (staF (cs.take k)) ∧ Below w.heap.size w wr) (fun _ i _ _ => cs.length - (RowKit.intOf i).toNat)
  case atStart => exact ⟨0, Nat.zero_le _, rfl, OF_emptyK _ _ _ rfl (Nat.le_refl _) _ rfl, (by repeat (first | exact Below.refl _ _ | assumption | refine below_drewN ?_ _ | refine below_alloc (Nat.le_refl _) ?_ _ | (refine Below.setCell ?_ (by first | exact Nat.le_refl _ | (simp; done) | (simp; omega) | omega) _) | (refine below_step (Nat.le_refl _) ?_ (by assumption))))⟩
  case round =>
    obtain ⟨k, hk, rfl, ho, hb⟩ := hrel
    by_cases hlt : k < cs.length
    · obtain ⟨bs, os, rfl, gs⟩ := HC.out.resolve_left (by omega)
      obtain ⟨m0, m1, m2⟩ := (StaAt_of gs k hlt).below hb
      obtain ⟨-, h3, h4, h5, h6⟩ := HR.out.below hb
      have HS : Hid (staF (cs.take (k + 1)) = staF (cs.take k) ++ [cs[k].ra, cs[k].ch, cs[k].tw]) := staF_succ cs k hlt
      have HL : Hid ((staF (cs.take k)).length + 3 ≤ 1048576) := by show _ ≤ _; have := LS.out; rw [staF_len, List.length_take]; omega
      have HB := Lib.hid hb
      have HO := Lib.hid ho
      clear gs hb ho h4 h5 h6
      generalize cs[k] = s at *
      obtain ⟨ra, ch, tw⟩ := s
      simp only at m0 m1 m2
      have HS2 : Hid (staF (cs.take (k + 1)) = staF (cs.take k) ++ [ra, ch, tw]) := HS.out
      clear HS
      generalize staF (cs.take k) = zs at *
      go_wp2_with fail
      go_region_law ((refine step_appFs w.heap.size zs [ra, ch, tw] _ _ u3 wr.heap.size 0 3 (by rfl) (by rfl) (by rfl) (by rfl) (OF_below HO.out (Below_drewK (below_alloc (Nat.le_refl _) (Below.refl _ _) _))) (cells3 (sta_top wr _ rfl ⟨ra, ch, tw⟩ 22).1 (sta_top wr _ rfl ⟨ra, ch, tw⟩ 22).2.1 (sta_top wr _ rfl ⟨ra, ch, tw⟩ 22).2.2) HL.out (by have := HB.out.size; simp; omega) ?_; intro u7 w7 H1 H2))
      all_goals
        have E1 := Lib.hid H1
        have E2 := Lib.hid (HB.out.trans (Below.trans (show Below w.heap.size wr (wr.alloc (.cells #[.float .f32 ra, .float .f32 ch, .float .f32 tw] 22)).drew from Below_drewK (below_alloc HB.out.size (Below.refl _ _) _)) H2))
        clear H1 H2
        go_simp
        go_wp2_with fail
        go_roundw
        case rel => exact ⟨k + 1, by omega, by go_num, by rw [HS2.out]; exact E1.out, E2.out⟩
        case measure => simp [RowKit.intOf]; omega
    · obtain rfl : k = cs.length := by omega
      rw [List.take_length] at ho
      have HU := Lib.hid (RF_of_own ho (by rw [staF_len]; have := LS.out; omega))
      obtain ⟨-, h3, h4, h5, h6⟩ := HR.out.below hb
      have HRW := Lib.hid (HR.out.below hb)
      have HB := Lib.hid hb
      clear ho hb
      go_wp2_with fail
      go_region_held3 (fun w' => w'.cell? ⟨g, 3, none⟩ = some (.slice ps cs.length cp) ∧ w'.cell? ⟨g, 4, none⟩ = some (.int .i64 c) ∧ w'.cell? ⟨g, 5, none⟩ = some (.float .f32 hub) ∧ w'.cell? ⟨g, 6, none⟩ = some (.float .f32 tip))
        ((refine (HRW.out.below ?_).2; repeat (first | with_reducible exact Below.refl _ _ | with_reducible refine Below_drewK ?_ | with_reducible refine below_alloc (Nat.le_refl _) ?_ _ | with_reducible refine below_step (Nat.le_refl _) ?_ (by with_reducible assumption))))
        (first
          | ((go_at_call 41; with_reducible refine (H1.out _ ?_).mono ?_; (focus (repeat (first | with_reducible exact HB.out | with_reducible refine Below_drewK ?_ | with_reducible refine below_alloc (Nat.le_refl _) ?_ _ | with_reducible refine below_step (Nat.le_refl _) ?_ (by with_reducible assumption)))); rintro e' w2 ⟨rfl, hb2⟩))
          | ((go_at_call 59; with_reducible refine (H2.out _ _ ?_).mono ?_; (focus (repeat (first | with_reducible exact HU.out | with_reducible refine RF.alloc ?_ _ | with_reducible refine RF_drewT ?_ | with_reducible refine RF_below ?_ (by with_reducible assumption)))); rintro e' w3 ⟨rfl, hb3⟩))
          | ((go_at_call 67; with_reducible refine (H3.out _).mono ?_; rintro e' w4 ⟨rfl, hb4⟩))
          | ((go_at_call 59; with_reducible refine (H4.out _ _ ?_).mono ?_; (focus (repeat (first | with_reducible exact RF_top2 _ _ rfl _ _ _ | with_reducible refine RF_drewT ?_ | with_reducible refine RF_below ?_ (by with_reducible assumption)))); rintro e' w5 ⟨rfl, hb5⟩)))
      all_goals
        go_wp2
        go_ret
        refine ⟨by rw [HFIN.out]; rfl, ?_⟩
        repeat (first | with_reducible exact HB.out | with_reducible refine Below_drewK ?_ | with_reducible refine below_alloc (Nat.le_refl _) ?_ _ | with_reducible refine below_step (Nat.le_refl _) ?_ (by with_reducible assumption))
end Go.Proofs.YtimckchoekkkfaaDoor
