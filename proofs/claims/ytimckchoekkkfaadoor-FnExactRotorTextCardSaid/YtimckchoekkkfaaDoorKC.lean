/- Walks: the text of a profile. -/
import Derived.Test.YtimckchoekkkfaaDoorKB
import Derived.Lib.QuietBelow
namespace Go.Proofs.YtimckchoekkkfaaDoor
set_option linter.unusedSimpArgs false
set_option linter.unusedVariables false
open Go.RowKit Go.Fl Go.Lib

def profB (a l d : List Nat) : ByteArray := textB a ++ ⟨#[58]⟩ ++ textB l ++ ⟨#[58]⟩ ++ textB d
theorem RF_drewT {w : World} {v : Value} {xs : List Nat} (h : RF w v xs) : RF w.drew v xs := h
theorem Below_drewK {B : Nat} {a w : World} (h : Below B a w) : Below B a w.drew := below_drewN h 1
set_option maxRecDepth 100000 in
set_option maxHeartbeats 400000 in
theorem s_l08Profile (g : Nat) (va vl vd : Value) (a l d : List Nat) (w : World) (hp : ProfAt w g va vl vd) (ha : RF w va a) (hl : RF w vl l) (hd : RF w vd d) (ba : Bd a) (bl : Bd l) (bd : Bd d)
    (la : a.length ≤ 24) (ll : l.length ≤ 24) (ld : d.length ≤ 24) : Calls Tryd.prog 41 #[.pointer (some ⟨g, 0, none⟩)] w fun e' w' => e' = .returned (.string (profB a l d)) ∧ Below w.heap.size w w' := by
  have H1 := Lib.hid (fun d os => Calls.regrown_of (s_l01NText va a (Sort.grow (redrawn w d) os) (RF_below ha (below_regrown w d os)) ba (by omega)))
  have H2 := Lib.hid (fun d os => Calls.regrown_of (s_l01NText vl l (Sort.grow (redrawn w d) os) (RF_below hl (below_regrown w d os)) bl (by omega)))
  have H3 := Lib.hid (fun d' os => Calls.regrown_of (s_l01NText vd d (Sort.grow (redrawn w d') os) (RF_below hd (below_regrown w d' os)) bd (by omega)))
  have z1 := textB_size a
  have z2 := textB_size l
  have z3 := textB_size d
  have HFIN : Hid (profB a l d = textB a ++ ⟨#[58]⟩ ++ textB l ++ ⟨#[58]⟩ ++ textB d) := rfl
  generalize textB a = T1 at *
  generalize textB l = T2 at *
  generalize textB d = T3 at *
  have q1 : ¬ 9223372036854775807 < T1.size + 1 := by omega
  have q2 : ¬ 9223372036854775807 < T1.size + 1 + T2.size := by omega
  have q3 : ¬ 9223372036854775807 < T1.size + 1 + T2.size + 1 := by omega
  have q4 : ¬ 9223372036854775807 < T1.size + 1 + T2.size + 1 + T3.size := by omega
  obtain ⟨c0, c1, c2⟩ := hp
  have k0 := cell_regrown c0
  have k1 := cell_regrown c1
  have k2 := cell_regrown c2
  clear ha hl hd ba bl bd z1 z2 z3 la ll ld
  go_enter Tryd.func41, Tryd.ntmps41
  go_wp2_with fail
  refine wp_region_quiet_below (by kernel_rfl) (by kernel_rfl) ?_
  repeat (go_big_quiet_step (first | with_reducible exact H1.out _ _ | with_reducible exact H2.out _ _ | with_reducible exact H3.out _ _))

  refine wpQuiet_nil ?_
  intro _ hw'
  obtain ⟨⟨dq, osq⟩, hw''⟩ := hw'
  subst hw''
  go_wp2
  go_ret
  exact ⟨by rw [HFIN.out]; rfl, below_regrown w dq osq⟩
end Go.Proofs.YtimckchoekkkfaaDoor
