/- Walks: what is recovered of a journal. -/
import Derived.Test.YtfhmlhocaldioaaDoorTF
import Derived.Test.YtfhmlhocaldioaaDoorTG
import Derived.Test.YtfhmlhocaldioaaDoorTH
namespace Go.Proofs.YtfhmlhocaldioaaDoor
set_option linter.unusedSimpArgs false
set_option linter.unusedVariables false
open Go.RowKit Go.Fl Go.Tx Go.Lib
/-- A step on: what is below, told of the first world. -/
theorem step0' {w w1 w2 : World} (h : Below w.heap.size w w1) (hb : Below w1.heap.size w1 w2) : Below w.heap.size w w2 := below_step (Nat.le_refl _) h hb
theorem OS_less {B B' : Nat} {w : World} {v : Value} {ss : List ByteArray} (h : OS B w v ss) (hle : B' ≤ B) : OS B' w v ss := by
  obtain ⟨h1, h2⟩ := h
  exact ⟨h1, h2.imp id fun ⟨g, cap, cur, he, hb, hr⟩ => ⟨g, cap, cur, he, Nat.le_trans hle hb, hr⟩⟩
/-- What is recovered. -/
def RecOut (s : ByteArray) (w : World) (e : Ending) (w' : World) : Prop := ∃ u K, e = .returned (.tuple #[u, .int .i64 (offL (linesB s) K : Nat)]) ∧ OS w.heap.size w' u (outL (linesB s) K) ∧ Below w.heap.size w w' ∧ IsK (linesB s) K
theorem RecOut.mk {s : ByteArray} {w w1 w' : World} {u : Value} {K : Nat} (h0 : Below w.heap.size w w1) (ho : OS w1.heap.size w' u (outL (linesB s) K)) (hb : Below w1.heap.size w1 w') (hK : IsK (linesB s) K) : RecOut s w (.returned (.tuple #[u, .int .i64 (offL (linesB s) K : Nat)])) w' :=
  ⟨u, K, rfl, OS_less ho h0.size, step0' h0 hb, hK⟩
set_option maxHeartbeats 1000000 in
theorem s_l08Recover (s : ByteArray) (w : World) (hs : s.size ≤ 16000) : Calls Tryd.prog 22 #[.string s] w (RecOut s w) := by
  have hll : (linesB s).length ≤ 16001 := by
    have h := (cutAll_len 10 s).2
    rw [cut_snoc] at h
    simp at h
    omega
  go_enter Tryd.func22, Tryd.ntmps22
  go_wp2_with fail
  refine (s_l08Lines s _ (by omega)).mono ?_
  rintro e w1 ⟨u, rfl, hu, hb⟩
  have HB0 := Lib.hid hb
  have HOFF : Hid (∀ k, k ≤ (linesB s).length → offL (linesB s) k ≤ s.size) := offL_le s
  have HLN : Hid (∀ k (hk : k < (linesB s).length), offL (linesB s) k + (linesB s)[k].size + 1 ≤ s.size) := fun k hk => (cut_line s k hk).2.2
  have HMK : Hid (∀ (v : Value) (K : Nat) (w' : World), OS w1.heap.size w' v (outL (linesB s) K) → Below w1.heap.size w1 w' → IsK (linesB s) K → RecOut s w (.returned (.tuple #[v, .int .i64 (offL (linesB s) K : Nat)])) w') := fun v K w' h1 h2 h3 => RecOut.mk HB0.out h1 h2 h3
  clear hb HB0
  generalize linesB s = ls at *
  obtain ⟨p1, cap1, rfl, hm1, hc1⟩ := hu
  go_wp2_with fail
  go_loopw [6, 7, 8, 9] (fun t n c i wr => ∃ k : Nat, k ≤ ls.length ∧ i = .int .i64 k ∧ n = .int .i64 (nAt ls k) ∧ c = .int .i64 (offL ls k : Nat) ∧ OS w1.heap.size wr t (outL ls k) ∧ Below w1.heap.size w1 wr ∧ Hid (∀ j (hj : j < ls.length), j < k → goodL (nAt ls j) ls[j])) (fun _ _ _ i _ => ls.length - (RowKit.intOf i).toNat)
  case atStart => exact ⟨0, Nat.zero_le _, rfl, rfl, rfl, OS_empty _ _ _ (by simp) (by simp) _ rfl, (by repeat (first | exact Below.refl _ _ | assumption | refine below_drewN ?_ _ | refine below_alloc (Nat.le_refl _) ?_ _ | (refine Below.setCell ?_ (by first | exact Nat.le_refl _ | (simp; done) | (simp; omega) | omega) _) | (refine below_step (Nat.le_refl _) ?_ (by assumption)))), fun j _ h => absurd h (Nat.not_lt_zero _)⟩
  case round =>
    obtain ⟨k, hk, rfl, rfl, rfl, hown, hb, hgd⟩ := hrel
    have HO := Lib.hid hown
    have HB := Lib.hid hb
    clear hown
    by_cases hlt : k < ls.length
    · obtain ⟨b, off, rfl, hcell⟩ := hc1.resolve_left (by omega)
      have h0 : w1.cell? ⟨b, off + k, none⟩ = some (.string ls[k]) := hcell k _ (by simp [hlt])
      have h1 : wr.cell? ⟨b, off + k, none⟩ = some (.string ls[k]) := (hb.cell (p := ⟨b, off + k, none⟩) (block_lt_of_cell h0)).trans h0
      have hof := HLN.out k hlt
      obtain ⟨n0, n1⟩ := nAt_bound ls k
      have HT := Lib.hid (offL_succ ls k hlt)
      have HN := Lib.hid (nAt_succ ls k hlt)
      have HU := Lib.hid (outL_succ ls k hlt)
      have hol := outL_len ls k
      have HK : Hid (¬ goodL (nAt ls k) ls[k] → IsK ls k) := fun h => ⟨by omega, hgd.out, fun _ => h⟩
      have HG : Hid (goodL (nAt ls k) ls[k] → ∀ j (hj : j < ls.length), j < k + 1 → goodL (nAt ls j) ls[j]) := fun h j hj h2 => by
        by_cases e : j = k
        · subst e; exact h
        · exact hgd.out j hj (by omega)
      replace HMK := Lib.hid (HMK.out · k)
      have HH0 : Hid (w1.cell? ⟨b, off + k, none⟩ = some (.string ls[k])) := h0
      clear hcell hc1 h0 hb hgd HOFF HLN
      generalize ls[k] = L at *
      generalize nAt ls k = n at *
      generalize outL ls k = zs at *
      generalize offL ls k = o at *
      go_wp2_with fail
      go_loopw [10] (fun i w' => ∃ j m : Nat, j ≤ L.size ∧ i = .int .i64 j ∧ w' = wr.drewN m ∧ Hid (∀ i (hi : i < L.size), i < j → L[i] ≠ 32)) (fun i _ => L.size - (RowKit.intOf i).toNat)
      case atStart => exact ⟨0, 0, Nat.zero_le _, rfl, rfl, fun i _ h => absurd h (Nat.not_lt_zero _)⟩
      case round =>
        obtain ⟨j, m, hj, rfl, rfl, hsp⟩ := hrel
        by_cases hjl : j < L.size
        · have hcmp : (((L[j].toNat : Nat) : Int) == 32) = decide (L[j] = 32) := byte_eq L[j] 32
          by_cases hc : L[j] = 32
          · have hcmp' : (((L[j].toNat : Nat) : Int) == 32) = true := by rw [hcmp]; simpa using hc
            obtain ⟨e1, e2, e3⟩ := hasB_at hjl hc hsp.out
            have HE1 := Lib.hid e1
            have HE2 := Lib.hid e2
            have HE3 := Lib.hid e3
            have htz := txtB_size L
            clear hcmp hc hsp e1 e2
            have hne : ((j : Int) == (L.size : Int)) = false := by simp; omega
            go_wp2_with fail
            rw [← HE3.out]
            refine (s_l01Check (txtB L) n _ n0 n1 (by omega)).mono ?_
            rintro e w2 ⟨rfl, m2, rfl⟩
            obtain ⟨c0, c1⟩ := chk_bound n (txtB L) n0 n1
            have HGI : Hid (goodL n L ↔ numB L = decB (chk n (txtB L))) := ⟨fun h => h.2, fun h => ⟨HE1.out, h⟩⟩
            rw [HE2.out] at HGI
            generalize chk n (txtB L) = c at *
            generalize txtB L = tx at *
            have hL : ∀ x : Later (wr.drewN (m + m2)), x.to.cell? ⟨b, off + k, none⟩ = some (.string L) := fun x => (x.below.cell (p := ⟨b, off + k, none⟩) (block_lt_of_cell h1)).trans h1
            go_wp2_with fail
            ((refine wp_region_rl_lit (fun _ _ u => u = .string (decB c)) (by kernel_rfl) (by kernel_rfl) ?_); (iterate 7 (refine wpRl_det' (by kernel_rfl) (fun K hK => ?_); go_simp; refine hK _ ?_; clear hK K)); (refine wpRl_call1 (f := 29) (X := .int .i64 c) rfl (by kernel_rfl) rfl (run_enter Tryd.func29 (by kernel_rfl) rfl) (fun x => (s_l01Dec c _ c0 c1).mono (fun e w' ⟨he, hn⟩ => ⟨_, he, rfl, hn⟩)) ?_; intro v hv; subst hv); (refine wpRl_det' (by kernel_rfl) (fun K hK => ?_); go_simp; refine hK _ ?_; clear hK K); (refine wpRq_nil ?_); intro w' hb)
            have hb' : Below wr.heap.size wr w' := step0' (below_drewN (Below.refl _ _) _) hb
            have HB2 : Hid (Below w1.heap.size w1 w') := step0' HB.out hb'
            have HO2 : Hid (OS w1.heap.size w' u6 zs) := OS_below HO.out hb'
            clear hb'
            clear hb hL HO HB h1
            generalize hbb : (!((L.extract 0 j).toList == (decB c).toList)) = bb
            have HBB := Lib.hid hbb
            clear hbb
            cases bb
            · have hq : L.extract 0 j = decB c := by
                have h := HBB.out
                rw [Bool.not_eq_false', beq_iff_eq, toList_data, toList_data] at h
                rw [← mk_data (L.extract 0 j), ← mk_data (decB c), h]
              have HR := Lib.hid (HG.out (HGI.out.2 hq))
              clear HGI HK HG hq
              go_wp2_with (at_builtin; refine wpList_appS w1.heap.size zs tx rfl rfl rfl rfl ?_ ?_ (by omega) ?_ ?_)
              case _ => exact OS_below HO2.out (by repeat (first | exact Below.refl _ _ | assumption | refine below_drewN ?_ _ | refine below_alloc (Nat.le_refl _) ?_ _ | (refine Below.setCell ?_ (by first | exact Nat.le_refl _ | (simp; done) | (simp; omega) | omega) _) | (refine below_step (Nat.le_refl _) ?_ (by assumption))))
              case _ => rw [HE3.out]; exact cellS_top1 _ _ (by simp) _ _
              case _ => have := HB2.out.size; simp; omega
              intro u' w3 g1 g2
              have G1 := Lib.hid g1
              have G2 := Lib.hid g2
              have h3 : w3.cell? ⟨b, off + k, none⟩ = some (.string L) := by
                have hb := HB2.out
                exact (Below.cell (Below.trans (by repeat (first | exact Below.refl _ _ | assumption | refine below_drewN ?_ _ | refine below_alloc (Nat.le_refl _) ?_ _ | (refine Below.setCell ?_ (by first | exact Nat.le_refl _ | (simp; done) | (simp; omega) | omega) _) | (refine below_step (Nat.le_refl _) ?_ (by assumption)))) g2) (p := ⟨b, off + k, none⟩) (block_lt_of_cell HH0.out)).trans HH0.out
              clear g1 g2
              go_wp2
              go_roundw
              case rel => exact ⟨k + 1, by omega, by go_num, by rw [HN.out], by rw [HT.out]; go_num, by rw [HU.out, HE3.out]; exact G1.out, by have hb := HB2.out; exact Below.trans (by repeat (first | exact Below.refl _ _ | assumption | refine below_drewN ?_ _ | refine below_alloc (Nat.le_refl _) ?_ _ | (refine Below.setCell ?_ (by first | exact Nat.le_refl _ | (simp; done) | (simp; omega) | omega) _) | (refine below_step (Nat.le_refl _) ?_ (by assumption)))) G2.out, HR⟩
              case measure => simp [RowKit.intOf]; omega
            · have hq : ¬ L.extract 0 j = decB c := fun e => by
                have h := HBB.out
                rw [e] at h
                simp at h
              have HR := Lib.hid (HK.out fun h => hq (HGI.out.1 h))
              clear HGI HK HG hq
              go_wp2
              go_ret2
              exact HMK.out _ _ HO2.out HB2.out HR.out
          · have hcmp' : (((L[j].toNat : Nat) : Int) == 32) = false := by rw [hcmp]; simpa using hc
            have HC : Hid (∀ i (hi : i < L.size), i < j + 1 → L[i] ≠ 32) := fun i hi h => by
              by_cases e : i = j
              · subst e; exact hc
              · exact hsp.out i hi (by omega)
            clear hcmp hc hsp
            go_wp2
            go_roundw
            case rel => exact ⟨j + 1, _, by omega, by go_num, rfl, HC⟩
            case measure => simp [RowKit.intOf]; omega
        · obtain rfl : j = L.size := by omega
          have HR := Lib.hid (HK.out fun h => by have h2 := hasB_no (fun i hi => hsp.out i hi hi); rw [h.1] at h2; cases h2)
          clear hsp HG HK
          go_wp2
          go_ret2
          exact HMK.out _ _ (OS_below HO.out (by repeat (first | exact Below.refl _ _ | assumption | refine below_drewN ?_ _ | refine below_alloc (Nat.le_refl _) ?_ _ | (refine Below.setCell ?_ (by first | exact Nat.le_refl _ | (simp; done) | (simp; omega) | omega) _) | (refine below_step (Nat.le_refl _) ?_ (by assumption))))) (by have hb := HB.out; exact (by repeat (first | exact Below.refl _ _ | assumption | refine below_drewN ?_ _ | refine below_alloc (Nat.le_refl _) ?_ _ | (refine Below.setCell ?_ (by first | exact Nat.le_refl _ | (simp; done) | (simp; omega) | omega) _) | (refine below_step (Nat.le_refl _) ?_ (by assumption))))) HR.out
    · obtain rfl : k = ls.length := by omega
      go_wp2
      go_ret2
      exact HMK.out _ _ _ HO.out HB.out ⟨Nat.le_refl _, hgd.out, fun h => absurd h (Nat.lt_irrefl _)⟩
theorem cut_le (l sep : List UInt8) : (cut l sep).1.length ≤ l.length ∧ (cut l sep).2.1.length ≤ l.length := by
  unfold cut
  split
  · simp; omega
  · simp
theorem drop_data (s : ByteArray) (o : Nat) : (s.extract o s.size).data.toList = s.data.toList.drop o := by
  rw [extract_data]
  exact List.take_of_length_le (by rw [List.length_drop, size_eq]; exact Nat.le_refl _)
set_option maxHeartbeats 1000000 in
theorem i_recoverLines (s : ByteArray) (w : World) (hs : s.size ≤ 16000) (ht : TabP w) (M : Int) (hsh : w.cell? ⟨0, 0, none⟩ = some (.int .i64 M)) : Calls Tryd.prog 23 #[.string s] w (RecOut s w) := by
  have hll : (linesB s).length ≤ 16001 := by
    have h := (cutAll_len 10 s).2
    rw [cut_snoc] at h
    simp at h
    omega
  have HTP := Lib.hid ht
  have HM : Hid (w.cell? ⟨0, 0, none⟩ = some (.int .i64 M)) := hsh
  have HOFF : Hid (∀ k, k ≤ (linesB s).length → offL (linesB s) k ≤ s.size) := offL_le s
  have HLN : Hid (∀ k (hk : k < (linesB s).length), (cut (s.data.toList.drop (offL (linesB s) k)) [10]).1 = (linesB s)[k].data.toList ∧ (cut (s.data.toList.drop (offL (linesB s) k)) [10]).2.2 = true ∧ offL (linesB s) k + (linesB s)[k].size + 1 ≤ s.size) := fun k hk => cut_line s k hk
  have HRS : Hid ((cut (s.data.toList.drop (offL (linesB s) (linesB s).length)) [10]).2.2 = false) := cut_rest s
  have HMK : Hid (∀ (v : Value) (K : Nat) (w' : World), OS w.heap.size w' v (outL (linesB s) K) → Below w.heap.size w w' → IsK (linesB s) K → RecOut s w (.returned (.tuple #[v, .int .i64 (offL (linesB s) K : Nat)])) w') := fun v K w' h1 h2 h3 => RecOut.mk (Below.refl _ _) h1 h2 h3
  clear ht hsh
  generalize linesB s = ls at *
  go_enter Tryd.func23, Tryd.ntmps23
  go_wp2_with fail
  go_loopw [4, 5, 6] (fun t n c wr => ∃ k : Nat, k ≤ ls.length ∧ n = .int .i64 (nAt ls k) ∧ c = .int .i64 (offL ls k : Nat) ∧ OS w.heap.size wr t (outL ls k) ∧ Below w.heap.size w wr ∧ Hid (∀ j (hj : j < ls.length), j < k → goodL (nAt ls j) ls[j])) (fun _ _ c _ => s.size + 1 - (RowKit.intOf c).toNat)
  case atStart => exact ⟨0, Nat.zero_le _, rfl, rfl, OS_empty _ _ _ (by simp) (by simp) _ rfl, (by repeat (first | exact Below.refl _ _ | assumption | refine below_drewN ?_ _ | refine below_alloc (Nat.le_refl _) ?_ _ | (refine Below.setCell ?_ (by first | exact Nat.le_refl _ | (simp; done) | (simp; omega) | omega) _) | (refine below_step (Nat.le_refl _) ?_ (by assumption)))), fun j _ h => absurd h (Nat.not_lt_zero _)⟩
  case round =>
    obtain ⟨k, hk, rfl, rfl, hown, hb, hgd⟩ := hrel
    have HO := Lib.hid hown
    have HB := Lib.hid hb
    have HM1 : Hid (wr.cell? ⟨0, 0, none⟩ = some (.int .i64 M)) := (hb.cell (p := ⟨0, 0, none⟩) (block_lt_of_cell HM.out)).trans HM.out
    have hof := HOFF.out k hk
    obtain ⟨n0, n1⟩ := nAt_bound ls k
    have hol := outL_len ls k
    have hXs := cut_le ((s.extract (offL ls k) s.size).data.toList) (⟨#[10]⟩ : ByteArray).data.toList
    have HXD : Hid (cut ((s.extract (offL ls k) s.size).data.toList) (⟨#[10]⟩ : ByteArray).data.toList = cut (s.data.toList.drop (offL ls k)) [10]) := by show _ = _; rw [drop_data]
    have hexs : (s.extract (offL ls k) s.size).size = s.size - offL ls k := by simp
    rw [← size_eq, hexs] at hXs
    clear hown
    by_cases hlt : k < ls.length
    · have HT := Lib.hid (offL_succ ls k hlt)
      have HN := Lib.hid (nAt_succ ls k hlt)
      have HU := Lib.hid (outL_succ ls k hlt)
      obtain ⟨x1, x2, x3⟩ := HLN.out k hlt
      rw [← HXD.out] at x1 x2
      have HK : Hid (¬ goodL (nAt ls k) ls[k] → IsK ls k) := fun h => ⟨by omega, hgd.out, fun _ => h⟩
      have HG : Hid (goodL (nAt ls k) ls[k] → ∀ j (hj : j < ls.length), j < k + 1 → goodL (nAt ls j) ls[j]) := fun h j hj h2 => by
        by_cases e : j = k
        · subst e; exact h
        · exact hgd.out j hj (by omega)
      replace HMK := Lib.hid (HMK.out · k)
      clear hb hgd HOFF HLN HRS HXD
      generalize ls[k] = L at *
      generalize nAt ls k = n at *
      generalize outL ls k = zs at *
      generalize offL ls k = o at *
      have HX1 : Hid ((⟨(cut (s.extract o s.size).data.toList (⟨#[10]⟩ : ByteArray).data.toList).1.toArray⟩ : ByteArray) = L) := by show _ = _; rw [x1, mk_data]
      have HX2 := Lib.hid x2
      clear x1 x2
      have htz := txtB_size L
      have HMI := made_iff n L
      have HMS := made_size n L
      have HMI' := Lib.hid HMI
      have HMS' := Lib.hid HMS
      clear HMI HMS
      go_wp2_with fail
      refine (Tryd.strings_Cut (s.extract o s.size) ⟨#[10]⟩ M _ (by omega) HM1.out).mono ?_
      rintro e w1 ⟨rfl, m1, rfl⟩
      rw [HX1.out, HX2.out]
      generalize (⟨(cut (s.extract o s.size).data.toList (⟨#[10]⟩ : ByteArray).data.toList).2.1.toArray⟩ : ByteArray) = rs
      have HM2 : Hid ((wr.drewN m1).cell? ⟨0, 0, none⟩ = some (.int .i64 M)) := HM1.out
      have E1 : (⟨(cut L.data.toList (⟨#[32]⟩ : ByteArray).data.toList).2.1.toArray⟩ : ByteArray) = txtB L := rfl
      have E2 : (cut L.data.toList (⟨#[32]⟩ : ByteArray).data.toList).2.2 = hasB L := rfl
      have E1' := Lib.hid E1
      have E2' := Lib.hid E2
      clear E1 E2 HX1 HX2
      go_wp2_with fail
      refine (Tryd.strings_Cut L ⟨#[32]⟩ M (wr.drewN m1) (by omega) HM2.out).mono ?_
      rintro e w1 ⟨rfl, m2, rfl⟩
      rw [E1'.out, E2'.out]
      generalize (⟨(cut L.data.toList (⟨#[32]⟩ : ByteArray).data.toList).1.toArray⟩ : ByteArray) = nb
      clear E1' E2'
      have HTW : Hid (TabP (wr.drewN (m1 + m2))) := TabP_below HTP.out (below_drewN HB.out _)
      go_wp2_with fail
      refine (i_journalLine (txtB L) n _ n0 n1 (by omega) HTW.out).mono ?_
      rintro e w' ⟨rfl, hb⟩
      have hb' : Below wr.heap.size wr w' := step0' (below_drewN (Below.refl _ _) _) hb
      have HB2 : Hid (Below w.heap.size w w') := step0' HB.out hb'
      have HO2 := Lib.hid (OS_below HO.out hb')
      clear hb hb' HTW HO HB HM1 HM2
      generalize jLine n (txtB L) = J at *
      generalize chk n (txtB L) = c at *
      generalize txtB L = tx at *
      cases hok : hasB L
      · have HR := Lib.hid (HK.out fun h => by rw [h.1] at hok; cases hok)
        clear HK HG HMI' HMS' HT HN HU hok
        go_wp2_with fail
        go_ret2
        exact HMK.out _ _ HO2.out HB2.out HR.out
      · have HI := Lib.hid (HMI'.out hok)
        clear HMI' hok
        have HEQ : Hid ((!(J.toList == (L ++ ⟨#[10]⟩ : ByteArray).toList)) = false → J = L ++ ⟨#[10]⟩) := fun h => by
          rw [Bool.not_eq_false', beq_iff_eq, toList_data, toList_data] at h
          rw [← mk_data J, h, mk_data]
        have HNE : Hid ((!(J.toList == (L ++ ⟨#[10]⟩ : ByteArray).toList)) = true → J ≠ L ++ ⟨#[10]⟩) := fun h e => by
          rw [e] at h
          simp at h
        go_wp2_with (at_builtin; refine wpList_appS w.heap.size zs tx rfl rfl rfl rfl ?_ ?_ (by omega) ?_ ?_)
        case _ =>
          rename_i hsp
          have HR := Lib.hid (HK.out fun h => HNE.out hsp (HI.out.2 h))
          go_ret2
          exact HMK.out _ _ HO2.out HB2.out HR.out
        case _ => exact OS_below HO2.out (by repeat (first | exact Below.refl _ _ | assumption | refine below_drewN ?_ _ | refine below_alloc (Nat.le_refl _) ?_ _ | (refine Below.setCell ?_ (by first | exact Nat.le_refl _ | (simp; done) | (simp; omega) | omega) _) | (refine below_step (Nat.le_refl _) ?_ (by assumption))))
        case _ => exact cellS_top1 _ _ (by simp) _ _
        case _ => have := HB2.out.size; simp; omega
        intro u' w3 g1 g2
        rename_i hsp
        have hJ := HEQ.out hsp
        have HJS := Lib.hid (HMS'.out hJ)
        have HR := Lib.hid (HG.out (HI.out.1 hJ))
        have G1 := Lib.hid g1
        have G2 := Lib.hid g2
        have hjs : J.size ≤ 16001 := by have := HJS.out; omega
        clear g1 g2 hJ HEQ HNE HK HG HI HMS' hsp
        go_wp2
        go_roundw
        case rel => exact ⟨k + 1, by omega, by rw [HN.out], by rw [HT.out, HJS.out]; go_num, by rw [HU.out]; exact G1.out, by have hb := HB2.out; exact Below.trans (by repeat (first | exact Below.refl _ _ | assumption | refine below_drewN ?_ _ | refine below_alloc (Nat.le_refl _) ?_ _ | (refine Below.setCell ?_ (by first | exact Nat.le_refl _ | (simp; done) | (simp; omega) | omega) _) | (refine below_step (Nat.le_refl _) ?_ (by assumption)))) G2.out, HR⟩
        case measure => have := HJS.out; simp [RowKit.intOf]; omega
    · obtain rfl : k = ls.length := by omega
      have HR := Lib.hid (show IsK ls ls.length from ⟨Nat.le_refl _, hgd.out, fun h => absurd h (Nat.lt_irrefl _)⟩)
      have HX2 : Hid ((cut (s.extract (offL ls ls.length) s.size).data.toList (⟨#[10]⟩ : ByteArray).data.toList).2.2 = false) := by show _ = _; rw [HXD.out]; exact HRS.out
      replace HMK := Lib.hid (HMK.out · ls.length)
      clear hb hgd HOFF HLN HRS HXD hlt
      generalize nAt ls ls.length = n at *
      generalize outL ls ls.length = zs at *
      generalize offL ls ls.length = o at *
      have hL : ∀ X : List UInt8, X.length ≤ s.size - o → (⟨X.toArray⟩ : ByteArray).size ≤ s.size := fun X h => by
        show X.toArray.size ≤ _
        rw [List.size_toArray]; omega
      have hLz := hL _ hXs.1
      have HLz := Lib.hid hLz
      clear hLz hL hXs
      go_wp2_with fail
      refine (Tryd.strings_Cut (s.extract o s.size) ⟨#[10]⟩ M _ (by omega) HM1.out).mono ?_
      rintro e w1 ⟨rfl, m1, rfl⟩
      rw [HX2.out]
      have hLz := HLz.out
      clear HLz HX2
      generalize (⟨(cut (s.extract o s.size).data.toList (⟨#[10]⟩ : ByteArray).data.toList).1.toArray⟩ : ByteArray) = L at *
      generalize (⟨(cut (s.extract o s.size).data.toList (⟨#[10]⟩ : ByteArray).data.toList).2.1.toArray⟩ : ByteArray) = rs at *
      have HM2 : Hid ((wr.drewN m1).cell? ⟨0, 0, none⟩ = some (.int .i64 M)) := HM1.out
      have E1' : Hid ((⟨(cut L.data.toList (⟨#[32]⟩ : ByteArray).data.toList).2.1.toArray⟩ : ByteArray) = txtB L) := rfl
      have htz := txtB_size L
      go_wp2_with fail
      refine (Tryd.strings_Cut L ⟨#[32]⟩ M (wr.drewN m1) (by omega) HM2.out).mono ?_
      rintro e w1 ⟨rfl, m2, rfl⟩
      rw [E1'.out]
      generalize (⟨(cut L.data.toList (⟨#[32]⟩ : ByteArray).data.toList).1.toArray⟩ : ByteArray) = nb
      generalize (cut L.data.toList (⟨#[32]⟩ : ByteArray).data.toList).2.2 = ok2
      clear E1'
      have HTW : Hid (TabP (wr.drewN (m1 + m2))) := TabP_below HTP.out (below_drewN HB.out _)
      go_wp2_with fail
      refine (i_journalLine (txtB L) n _ n0 n1 (by omega) HTW.out).mono ?_
      rintro e w' ⟨rfl, hb⟩
      have hb' : Below wr.heap.size wr w' := step0' (below_drewN (Below.refl _ _) _) hb
      have HB2 : Hid (Below w.heap.size w w') := step0' HB.out hb'
      have HO2 := Lib.hid (OS_below HO.out hb')
      clear hb hb' HTW HO HB HM1 HM2
      generalize jLine n (txtB L) = J at *
      generalize chk n (txtB L) = c at *
      go_wp2_with fail
      go_ret2
      exact HMK.out _ _ HO2.out HB2.out HR.out
end Go.Proofs.YtfhmlhocaldioaaDoor
