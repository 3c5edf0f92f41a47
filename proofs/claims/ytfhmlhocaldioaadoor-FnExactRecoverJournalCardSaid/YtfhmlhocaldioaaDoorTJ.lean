/- Walks: RecoverJournal; texts that mark lists. -/
import Derived.Test.YtfhmlhocaldioaaDoorTI
namespace Go.Proofs.YtfhmlhocaldioaaDoor
set_option linter.unusedSimpArgs false
set_option linter.unusedVariables false
open Go.RowKit Go.Fl Go.Tx Go.Lib
/-- What RecoverJournal answers. -/
def RV (s : ByteArray) (o : List ByteArray) (n : Int) (b : Bool) : Prop := (16000 < s.size ∧ o = [] ∧ n = 0 ∧ b = false) ∨ (s.size ≤ 16000 ∧ b = true ∧ ∃ K, IsK (linesB s) K ∧ o = outL (linesB s) K ∧ n = (offL (linesB s) K : Nat))
theorem RV.unique {s : ByteArray} {o o' : List ByteArray} {n n' : Int} {b b' : Bool} (h : RV s o n b) (h' : RV s o' n' b') : o = o' ∧ n = n' ∧ b = b' := by
  rcases h with ⟨h1, rfl, rfl, rfl⟩ | ⟨h1, rfl, K, hK, rfl, rfl⟩ <;> rcases h' with ⟨g1, rfl, rfl, rfl⟩ | ⟨g1, rfl, K', hK', rfl, rfl⟩
  · exact ⟨rfl, rfl, rfl⟩
  · omega
  · omega
  · obtain rfl := hK.unique hK'
    exact ⟨rfl, rfl, rfl⟩
theorem RV.len {s : ByteArray} {o : List ByteArray} {n : Int} {b : Bool} (h : RV s o n b) : o.length ≤ 16001 := by
  rcases h with ⟨h1, rfl, rfl, rfl⟩ | ⟨h1, rfl, K, hK, rfl, rfl⟩
  · simp
  · have h2 := outL_len (linesB s) K
    have h3 := (cutAll_len 10 s).2
    have h4 := hK.1
    rw [cut_snoc] at h3
    simp at h3
    omega
def RecO (s : ByteArray) (w : World) (e : Ending) (w' : World) : Prop := ∃ u o n b, e = .returned (.tuple #[u, .int .i64 n, .bool b]) ∧ OS w.heap.size w' u o ∧ Below w.heap.size w w' ∧ RV s o n b
set_option maxHeartbeats 1000000 in
theorem s_RecoverJournal (s : ByteArray) (w : World) (hs : s.size ≤ 1048576) : Calls Tryd.prog 13 #[.string s] w (RecO s w) := by
  by_cases hsz : s.size ≤ 16000
  · go_enter Tryd.func13, Tryd.ntmps13
    go_wp2_with fail
    refine (s_l08Recover s _ hsz).mono ?_
    rintro e w' ⟨u, K, rfl, ho, hb, hK⟩
    have HO := Lib.hid ho
    have HB := Lib.hid hb
    have HV : Hid (RV s (outL (linesB s) K) (offL (linesB s) K : Nat) true) := .inr ⟨hsz, rfl, K, hK, rfl, rfl⟩
    clear ho hb hK
    generalize outL (linesB s) K = o at *
    generalize offL (linesB s) K = n at *
    go_wp2_with fail
    go_ret3
    exact ⟨_, _, _, _, rfl, HO.out, HB.out, HV.out⟩
  · have HV : Hid (RV s [] 0 false) := .inl ⟨by omega, rfl, rfl, rfl⟩
    go_enter Tryd.func13, Tryd.ntmps13
    go_wp2
    go_ret3
    exact ⟨_, _, _, _, rfl, OS_nil _ _, (by repeat (first | exact Below.refl _ _ | assumption | refine below_drewN ?_ _ | refine below_alloc (Nat.le_refl _) ?_ _ | (refine Below.setCell ?_ (by first | exact Nat.le_refl _ | (simp; done) | (simp; omega) | omega) _) | (refine below_step (Nat.le_refl _) ?_ (by assumption)))), HV.out⟩
set_option maxHeartbeats 1000000 in
theorem i_RecoverJournal (s : ByteArray) (w : World) (hs : s.size ≤ 1048576) (ht : TabP w) (M : Int) (hsh : w.cell? ⟨0, 0, none⟩ = some (.int .i64 M)) : Calls Tryd.prog 14 #[.string s] w (RecO s w) := by
  have HT := Lib.hid ht
  have HM : Hid (w.cell? ⟨0, 0, none⟩ = some (.int .i64 M)) := hsh
  clear ht hsh
  by_cases hsz : s.size ≤ 16000
  · go_enter Tryd.func14, Tryd.ntmps14
    go_wp2_with fail
    refine (i_recoverLines s _ hsz HT.out M HM.out).mono ?_
    rintro e w' ⟨u, K, rfl, ho, hb, hK⟩
    have HO := Lib.hid ho
    have HB := Lib.hid hb
    have HV : Hid (RV s (outL (linesB s) K) (offL (linesB s) K : Nat) true) := .inr ⟨hsz, rfl, K, hK, rfl, rfl⟩
    clear ho hb hK
    generalize outL (linesB s) K = o at *
    generalize offL (linesB s) K = n at *
    go_wp2_with fail
    go_ret3
    exact ⟨_, _, _, _, rfl, HO.out, HB.out, HV.out⟩
  · have HV : Hid (RV s [] 0 false) := .inl ⟨by omega, rfl, rfl, rfl⟩
    go_enter Tryd.func14, Tryd.ntmps14
    go_wp2
    go_ret3
    exact ⟨_, _, _, _, rfl, OS_nil _ _, (by repeat (first | exact Below.refl _ _ | assumption | refine below_drewN ?_ _ | refine below_alloc (Nat.le_refl _) ?_ _ | (refine Below.setCell ?_ (by first | exact Nat.le_refl _ | (simp; done) | (simp; omega) | omega) _) | (refine below_step (Nat.le_refl _) ?_ (by assumption)))), HV.out⟩
/-- The text of a mark. -/
def markT (m : Nat) : ByteArray := ⟨(109 :: (if m = 0 then [48] else decDigits m)).toArray⟩
theorem bytes_cons (d : UInt8) (ds : List UInt8) : (⟨#[d]⟩ : ByteArray) ++ ⟨ds.toArray⟩ = ⟨(d :: ds).toArray⟩ := by
  rw [← mk_data ((⟨#[d]⟩ : ByteArray) ++ ⟨ds.toArray⟩)]
  simp
theorem size_mk (ds : List UInt8) : (⟨ds.toArray⟩ : ByteArray).size = ds.length := by
  show ds.toArray.size = _
  simp
set_option maxHeartbeats 1000000 in
theorem l_markText (m : Nat) (K : Int) (hK : K = (m : Int)) (w : World) (h1 : m ≤ 1000000000) : Calls Tryd.prog 24 #[.int .i64 K] w fun e w' => e = .returned (.string (markT m)) ∧ Below w.heap.size w w' := by
  subst hK
  by_cases h0 : m = 0
  · subst h0
    go_enter Tryd.func24, Tryd.ntmps24
    go_wp2
    go_ret
    exact ⟨rfl, (by repeat (first | exact Below.refl _ _ | assumption | refine below_drewN ?_ _ | refine below_alloc (Nat.le_refl _) ?_ _ | (refine Below.setCell ?_ (by first | exact Nat.le_refl _ | (simp; done) | (simp; omega) | omega) _) | (refine below_step (Nat.le_refl _) ?_ (by assumption))))⟩
  have hnd : nDigits m ≤ 20 := nDigits_le20 m (by omega)
  have HE : Hid (markT m = ⟨#[109]⟩ ++ ⟨(decDigits m).toArray⟩) := by
    show _ = _
    rw [bytes_cons]; unfold markT; rw [if_neg h0]
  go_enter Tryd.func24, Tryd.ntmps24
  go_wp2_with fail
  go_loopw [0, 3] (fun i t wr => ∃ (u : Nat) (ds : List UInt8), u ≤ m ∧ DigAt m u ds ∧ i = .int .i64 u ∧ t = .string ⟨ds.toArray⟩ ∧ Below w.heap.size w wr) (fun i _ _ => (RowKit.intOf i).toNat)
  case atStart => exact ⟨m, [], Nat.le_refl _, .inl ⟨rfl, rfl⟩, rfl, rfl, (by repeat (first | exact Below.refl _ _ | assumption | refine below_drewN ?_ _ | refine below_alloc (Nat.le_refl _) ?_ _ | (refine Below.setCell ?_ (by first | exact Nat.le_refl _ | (simp; done) | (simp; omega) | omega) _) | (refine below_step (Nat.le_refl _) ?_ (by assumption))))⟩
  case round =>
    obtain ⟨u, ds, hu, hd, rfl, rfl, hb⟩ := hrel
    have hle := hd.le
    have HD := Lib.hid hd
    have HB := Lib.hid hb
    clear hd hb
    have hz := dig_byte (u % 10) (by omega)
    have go : ∀ hgo : ds = [] ∨ u ≠ 0, Hid (DigAt m (u / 10) (UInt8.ofNat (48 + u % 10) :: ds)) := fun hgo => HD.out.step hgo
    generalize UInt8.ofNat (48 + u % 10) = d at hz go
    by_cases hu0 : u = 0
    · have hds : ds ≠ [] := fun e => by
        rcases HD.out with ⟨_, h⟩ | ⟨h, _⟩ | ⟨h, _⟩
        · exact h0 (h.symm.trans hu0)
        · exact h e
        · exact h e
      have HE2 := Lib.hid (HD.out.done hds hu0)
      have hsz := size_mk ds
      clear go hz
      subst hu0
      have HT : Hid ((⟨#[109]⟩ : ByteArray) ++ ⟨ds.toArray⟩ = markT m) := by show _ = _; rw [HE.out, ← HE2.out]
      clear HE2 hds
      go_wp2
      go_ret
      exact ⟨by rw [← HT.out]; rfl, HB.out⟩
    · have HS := go (.inr hu0)
      have hy := (OY_string (OY_one wr.heap.size wr _ rfl (Nat.le_refl _) 5 rfl (48 + (u : Int) % 10) d (by rw [hz]; go_num)))
      have hsz := size_mk ds
      have HC := Lib.hid (bytes_cons d ds)
      clear go
      simp only [List.length_cons, List.length_nil, Nat.zero_add] at hy
      go_wp2
      go_roundw
      case rel => exact ⟨u / 10, _, by omega, HS.out, by go_num, by rw [HC.out], by have hb := HB.out; exact (by repeat (first | exact Below.refl _ _ | assumption | refine below_drewN ?_ _ | refine below_alloc (Nat.le_refl _) ?_ _ | (refine Below.setCell ?_ (by first | exact Nat.le_refl _ | (simp; done) | (simp; omega) | omega) _) | (refine below_step (Nat.le_refl _) ?_ (by assumption))))⟩
      case measure => simp [RowKit.intOf]; omega
/-- Two slices of which no block is the other's. -/
def Apart (u v : Value) : Prop := ∀ k, u.ownBlock = some k → v.ownBlock ≠ some k
theorem apart_of {B S : Nat} {w w' : World} {u v : Value} {n m : Nat} {cs ds : List Value} {e f : TypeId} {s t : Nat} (hu : w.ownsRow B e s u n cs) (hS : w.heap.size ≤ S) (hv : w'.ownsRow S f t v m ds) : Apart u v := fun k h1 h2 => by
  have := (hu.lt k h1).2
  have := (hv.lt k h2).1
  omega
theorem kept_apart {B : Nat} {w w' : World} {u v : Value} {n : Nat} {cs : List Value} {e : TypeId} {s : Nat} (h : w.ownsRow B e s v n cs) (hg : w.grownBy w' u.ownBlock) (hd : Apart u v) : w'.ownsRow B e s v n cs := by
  refine h.kept hg ?_
  cases hu : u.ownBlock with
  | none => cases v.ownBlock <;> simp
  | some k => right; exact hd k hu
/-- The marks from k on. -/
def marksS (n : Nat) (k : Nat) : List ByteArray := (List.range n).map fun (i : Nat) => markT (k + i)
theorem marksS_length (n k : Nat) : (marksS n k).length = n := by simp [marksS]
/-- What is marked up to j. -/
def markedToS (xs : List ByteArray) (k j : Nat) : List ByteArray := marksS j k ++ xs.drop j
theorem markedToS_length (xs : List ByteArray) (k j : Nat) (hj : j ≤ xs.length) : (markedToS xs k j).length = xs.length := by simp [markedToS, marksS_length]; omega
theorem markedToS_set (xs : List ByteArray) (k j : Nat) (hj : j < xs.length) : ((markedToS xs k j).map Value.string).set j (.string (markT (k + j))) = (markedToS xs k (j + 1)).map Value.string := by
  rw [← List.map_set]
  congr 1
  apply List.ext_getElem?
  intro i
  simp only [markedToS, marksS, List.getElem?_set, List.length_append, List.length_map, List.length_range, List.length_drop, List.getElem?_append, List.getElem?_map, List.getElem?_drop]
  by_cases e : j = i
  · subst e
    simp
    omega
  · rw [if_neg e]
    by_cases h : i < j
    · simp [h, show i < j + 1 by omega]
    · rw [if_neg h, if_neg (by omega)]
      congr 1
      omega
theorem markedToS_zero (xs : List ByteArray) (k : Nat) : markedToS xs k 0 = xs := by simp [markedToS, marksS]
theorem markedToS_all (xs : List ByteArray) (k j : Nat) (hj : xs.length ≤ j) (hj2 : j ≤ xs.length) : markedToS xs k j = marksS xs.length k := by
  obtain rfl : j = xs.length := by omega
  simp [markedToS]
theorem grownBy_refl (w : World) (r : Option Nat) : w.grownBy w r := ⟨rfl, rfl, rfl, Nat.le_refl _, fun _ _ _ => rfl⟩
theorem grownBy_trans {w w1 w2 : World} {r : Option Nat} (h : w.grownBy w1 r) (k : w1.grownBy w2 r) : w.grownBy w2 r :=
  ⟨k.os.trans h.os, k.tape.trans h.tape, k.output.trans h.output, Nat.le_trans h.size k.size, fun i hi hne => (k.block i (Nat.lt_of_lt_of_le hi h.size) hne).trans (h.block i hi hne)⟩
theorem grownBy_below {w w1 : World} (h : Below w.heap.size w w1) (r : Option Nat) : w.grownBy w1 r := ⟨h.os, h.tape, h.output, h.size, fun i hi _ => h.block i hi⟩
set_option maxHeartbeats 1000000 in
theorem l_markStringS (u : Value) (xs : List ByteArray) (k0 : Nat) (K : Int) (hK : K = (k0 : Int)) (B : Nat) (w : World) (ho : OS B w u xs) (hl : xs.length ≤ 1048576) (hk : k0 ≤ 100000000) :
    Calls Tryd.prog 15 #[u, .int .i64 K] w fun e w' => e = .returned (.int .i64 ((k0 + xs.length : Nat) : Int)) ∧ OS B w' u (marksS xs.length k0) ∧ w.grownBy w' u.ownBlock := by
  subst hK
  obtain ⟨hlen, hcase⟩ := id ho
  have HO := Lib.hid ho
  clear ho
  by_cases h0 : xs.length = 0
  · have hxs : xs = [] := List.eq_nil_of_length_eq_zero h0
    subst hxs
    rcases hcase with ⟨rfl, -⟩ | ⟨g, cap, cur, rfl, -⟩
    all_goals
      go_enter Tryd.func15, Tryd.ntmps15
      go_wp2_with fail
      refine wp_loop_rounds 1 ?_
      rw [rounds_succ]
      go_wp2
      go_ret
      exact ⟨by simp, HO.out, grownBy_refl _ _⟩
  · rcases hcase with ⟨rfl, h⟩ | ⟨g, cap, cur, rfl, -⟩
    · exact absurd h h0
    clear hlen
    go_enter Tryd.func15, Tryd.ntmps15
    go_wp2_with fail
    go_loopw [1, 5] (fun t i wr => ∃ j : Nat, j ≤ xs.length ∧ i = .int .i64 j ∧ t = .int .i64 ((k0 + j : Nat) : Int) ∧ wr.ownsRow B 9 1 (.slice (some ⟨g, 0, none⟩) xs.length cap) xs.length ((markedToS xs k0 j).map Value.string) ∧ w.grownBy wr (some g)) (fun _ i _ => xs.length - (RowKit.intOf i).toNat)
    case atStart => exact ⟨0, Nat.zero_le _, rfl, by simp, by rw [markedToS_zero]; exact HO.out, grownBy_refl _ _⟩
    case round =>
      obtain ⟨j, hj, rfl, rfl, hown, hg⟩ := hrel
      by_cases hlt : j < xs.length
      · have Hown := Lib.hid hown
        have Hg := Lib.hid hg
        have HQ := Lib.hid (l_markText (k0 + j) ((k0 + j : Nat) : Int) rfl wr (by omega))
        clear hown hg
        go_wp2_with fail
        refine HQ.out.mono ?_
        rintro e w1 ⟨rfl, hb⟩
        have hown := ownS_below Hown.out hb
        have h2 : w1.cell? ⟨g, j, none⟩ = some (.string ((markedToS xs k0 j)[j]'(by rw [markedToS_length _ _ _ hj]; exact hlt))) := by rw [hown.cellAt j (by omega)]; simp [markedToS_length _ _ _ hj, hlt]
        have h3 : w1.frozen? ⟨g, j, none⟩ = false := hown.frozenAt j
        have h4 := hown.stored j (.string (markT (k0 + j)))
        rw [markedToS_set xs k0 j hlt] at h4
        have H4 := Lib.hid h4
        have Hg1 := Lib.hid (grownBy_trans Hg.out (grownBy_below hb (some g)))
        clear hown hb h4 HQ Hown Hg
        generalize markT (k0 + j) = T at *
        go_wp2
        go_roundw
        case rel => exact ⟨j + 1, by omega, by go_num, by go_num, by simpa using H4.out.1, grownBy_trans Hg1.out (by simpa using H4.out.2)⟩
        case measure => simp [RowKit.intOf]; omega
      · have hown' := hown
        rw [markedToS_all xs k0 j (by omega) hj] at hown'
        obtain rfl : j = xs.length := by omega
        have Ho' : Hid (OS B wr (.slice (some ⟨g, 0, none⟩) xs.length cap) (marksS xs.length k0)) := by show wr.ownsRow _ _ _ _ _ _; rw [marksS_length]; exact hown'
        clear hown hown'
        go_wp2
        go_ret
        exact ⟨rfl, Ho'.out, hg⟩
set_option maxHeartbeats 1000000 in
theorem l_heldStringS (u : Value) (n : Nat) (k0 : Nat) (K : Int) (hK : K = (k0 : Int)) (w : World) (hx : RS w u (marksS n k0)) (hl : n ≤ 1048576) (hk : k0 ≤ 100000000) :
    Calls Tryd.prog 16 #[u, .int .i64 K] w fun e w' => e = .returned (.int .i64 ((k0 + n : Nat) : Int)) ∧ Below w.heap.size w w' := by
  subst hK
  obtain ⟨p1, cap1, rfl, hm1, hc1⟩ := hx
  rw [marksS_length] at hm1 hc1 ⊢
  go_enter Tryd.func16, Tryd.ntmps16
  go_wp2_with fail
  go_loopw [1, 5] (fun t i wr => ∃ j : Nat, j ≤ n ∧ i = .int .i64 j ∧ t = .int .i64 ((k0 + j : Nat) : Int) ∧ Below w.heap.size w wr) (fun _ i _ => n - (RowKit.intOf i).toNat)
  case atStart => exact ⟨0, Nat.zero_le _, rfl, by simp, (by repeat (first | exact Below.refl _ _ | assumption | refine below_drewN ?_ _ | refine below_alloc (Nat.le_refl _) ?_ _ | (refine Below.setCell ?_ (by first | exact Nat.le_refl _ | (simp; done) | (simp; omega) | omega) _) | (refine below_step (Nat.le_refl _) ?_ (by assumption))))⟩
  case round =>
    obtain ⟨j, hj, rfl, rfl, hb⟩ := hrel
    by_cases hlt : j < n
    · obtain ⟨b, off, rfl, hcell⟩ := hc1.resolve_left (by omega)
      have h0 : w.cell? ⟨b, off + j, none⟩ = some (.string (markT (k0 + j))) := hcell j _ (by simp [marksS, hlt])
      have h1 : wr.cell? ⟨b, off + j, none⟩ = some (.string (markT (k0 + j))) := (hb.cell (p := ⟨b, off + j, none⟩) (block_lt_of_cell h0)).trans h0
      have HB := Lib.hid hb
      have HQ : Hid (∀ w : World, Calls Tryd.prog 24 #[.int .i64 ((k0 + j : Nat) : Int)] w fun e w' => e = .returned (.string (markT (k0 + j))) ∧ Below w.heap.size w w') := fun w => l_markText (k0 + j) _ rfl w (by omega)
      clear hcell hc1 hb h0
      generalize markT (k0 + j) = T at *
      have hL : ∀ x : Later wr, x.to.cell? ⟨b, off + j, none⟩ = some (.string T) := fun x => (x.below.cell (p := ⟨b, off + j, none⟩) (block_lt_of_cell h1)).trans h1
      go_wp2_with fail
      ((refine wp_region_rl_lit (fun _ _ u => u = .string T) (by kernel_rfl) (by kernel_rfl) ?_); (iterate 5 (refine wpRl_det' (by kernel_rfl) (fun K hK => ?_); go_simp; refine hK _ ?_; clear hK K)); (refine wpRl_call1 (f := 24) (X := .int .i64 ((k0 + j : Nat) : Int)) rfl (by kernel_rfl) rfl (run_enter Tryd.func24 (by kernel_rfl) rfl) (fun x => (HQ.out _).mono (fun e w' ⟨he, hn⟩ => ⟨_, he, rfl, hn⟩)) ?_; intro v hv; subst hv); (refine wpRl_det' (by kernel_rfl) (fun K hK => ?_); go_simp; refine hK _ ?_; clear hK K); (refine wpRq_nil ?_); intro w' hb)
      go_wp2
      go_roundw
      case rel => exact ⟨j + 1, by omega, by go_num, by go_num, step0' HB.out hb⟩
      case measure => simp [RowKit.intOf]; omega
    · obtain rfl : j = n := by omega
      go_wp2
      go_ret
      exact ⟨rfl, hb⟩
end Go.Proofs.YtfhmlhocaldioaaDoor
