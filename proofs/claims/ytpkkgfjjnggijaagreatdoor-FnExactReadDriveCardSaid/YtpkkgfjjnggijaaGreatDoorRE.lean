/- Walks: a list of numbers read, the reference's. -/
import Derived.Test.YtpkkgfjjnggijaaGreatDoorRD
import Derived.Test.YtpkkgfjjnggijaaGreatDoorM
import Derived.Maps.AppendAt
namespace Go.Proofs.YtpkkgfjjnggijaaGreatDoor
set_option linter.unusedSimpArgs false
set_option linter.unusedVariables false
open Go.RowKit Go.Fl Go.Tx Go.Lib

theorem dig_none {c : UInt8} (h : dig c = none) : c.toNat < 48 ∨ (57 < c.toNat ∧ c.toNat < 97) ∨ 102 < c.toNat := by
  unfold dig at h
  split at h
  · cases h
  · split at h
    · cases h
    · omega
/-- 'append' of one number to a slice of the call's own: which block is the new one's. -/
theorem wpList_appAt {ops : Array Oper} {rest : List Oper} {o : Oper} {a : Act} {Q : Exit → Act → World → Prop} {w : World} (B : Nat) (xs : List Nat) (r : Nat) {s x : Operand} {v : Value} {g : Nat} (hgd : o.guard = none)
    (ho : o.op = .call { callee := .builtin .append, args := #[s, x], argTypes := #[31, 31] }) (hs : a.eval s = v) (hx : a.eval x = .slice (some ⟨g, 0, none⟩) 1 1)
    (hown : OF B w v xs) (hcell : w.cell? ⟨g, 0, none⟩ = some (.float .f32 r)) (hl : xs.length ≤ 1048577) (hB : B ≤ w.heap.size)
    (h : ∀ u w', OF B w' u (xs ++ [r]) → w.grownBy w' v.ownBlock → (u.ownBlock = v.ownBlock ∨ u.ownBlock = some w.heap.size) → wpList Tryz.prog ops Q rest (a.put o.dst u) w') : wpList Tryz.prog ops Q (o :: rest) a w := by
  have hinfo : (Tryz.prog.info? 22).map (fun i => (i.zero, i.size, i.bytes)) = some (some (.float .f32 0), 1, 4) := by kernel_rfl
  obtain ⟨i, hi, hzz⟩ := Option.map_eq_some_iff.1 hinfo
  simp only [Prod.mk.injEq] at hzz
  obtain ⟨hz, hsz, hby⟩ := hzz
  refine wpList_append_own_at w hgd s x 31 ho B 22 i (.float .f32 0) 1 4 Tryz.underlying31 hi hz hsz hby rfl (by decide) v xs.length _ hs hown ⟨g, 0, none⟩ 1 1 [.float .f32 r] hx rfl ?_ ?_ (by unfold maxLen; omega) (by omega) hB ?_
  · intro j u hj
    match j, hj with
    | 0, hj => simp at hj; subst hj; simpa [Addr.add] using hcell
  · intro u hu; simp at hu; subst hu; rfl
  · intro v' w' h1 h2 _ h4
    refine h v' w' ?_ h2 h4
    show w'.ownsRow _ _ _ _ _ _
    simpa using h1
theorem numFrom_take (l : List UInt8) (k : Nat) (hk : k < l.length) : numFrom 0 (l.take (k + 1)) = (numFrom 0 (l.take k)).bind fun a => (dig l[k]).map fun d => 16 * a + d := by
  rw [List.take_succ_eq_append_getElem hk, numFrom_append]
  congr 1
  funext a
  show (match dig l[k] with | some d => numFrom (16 * a + d) [] | none => none) = _
  cases dig l[k] <;> rfl
theorem numFrom_cut (l : List UInt8) (k : Nat) (h : numFrom 0 (l.take k) = none) : numFrom 0 l = none := by
  have e : l = l.take k ++ l.drop k := (List.take_append_drop k l).symm
  rw [e, numFrom_append, h]
  rfl
theorem wordOf_num_none {p : ByteArray} (h : numFrom 0 p.data.toList = none) : wordOf p = none := wordOf_bad fun ⟨_, n, hn⟩ => by rw [h] at hn; cases hn
theorem s_l01From (n : Nat) (hn : n < 4294967296) (w : World) : Calls Tryz.prog 51 #[.int .i64 (n : Int)] w fun e w' => e = .returned (.float .f32 n) ∧ w' = w := by
  have hfb := run_frombits n
  have hwr : IntKind.u32.wrap (n : Int) = (n : Int) := by simp [IntKind.wrap, IntKind.bits, IntKind.signed]; omega
  clear hn
  go_enter Tryz.func51, Tryz.ntmps51
  go_wp2
  go_ret
  exact ⟨rfl, rfl⟩
set_option maxRecDepth 100000 in
set_option maxHeartbeats 4000000 in
theorem s_l01NRead (t : ByteArray) (hs : t.size ≤ 1048576) (w : World) : Calls Tryz.prog 31 #[.string t] w (NumsOut t w) := by
  have hn := none_eq t
  by_cases h0 : t = noneB
  · have hn' : (t.toList == [110, 111, 110, 101]) = true := by rw [hn]; simpa using h0
    have HY : Hid (numsOf t = some []) := by show _ = _; unfold numsOf; rw [if_pos h0]
    clear hn h0
    go_enter Tryz.func31, Tryz.ntmps31
    go_wp2
    go_ret2
    exact NumsOut.ok HY.out (OF_emptyN _ _ _ rfl (Nat.le_refl _) _ rfl) (by repeat (first | exact Below.refl _ _ | assumption | refine below_drewN ?_ _ | refine below_alloc (Nat.le_refl _) ?_ _ | (refine Below.setCell ?_ (by first | exact Nat.le_refl _ | (simp; done) | (simp; omega) | omega) _) | (refine below_step (Nat.le_refl _) ?_ (by assumption))))
  have hn' : (t.toList == [110, 111, 110, 101]) = false := by rw [hn]; simpa using h0
  have HN : Hid (numsOf t = if (cutAll 44 t).length ≤ 256 then wordsOf (cutAll 44 t) else none) := by show _ = _; unfold numsOf; rw [if_neg h0]
  have HP := Lib.hid (fun W => s_l01Cut t 44 44 rfl W hs)
  have HSZ := Lib.hid hs
  clear hn h0 hs
  go_enter Tryz.func31, Tryz.ntmps31
  go_wp2_with fail
  refine (HP.out _).mono ?_
  rintro e' w1 ⟨v, rfl, hR, hb⟩
  have hO := OF_emptyN w.heap.size w _ rfl (Nat.le_refl _) 22 rfl
  have HO := Lib.hid (OF_belowN hO hb)
  have HB := Lib.hid (below_step (Nat.le_refl _) (below_alloc (Nat.le_refl _) (Below.refl w.heap.size w) (.cells #[] 22)) hb)
  clear hO hb HP
  have HL0 : Hid ((cutAll 44 t).length ≤ 1048577) := by show _ ≤ _; have := (cutAll_len 44 t).2; have := HSZ.out; omega
  generalize cutAll 44 t = ss at *
  have HR := Lib.hid (show OS (w.heap.size + 1) w1 v ss by have h := hR; rwa [World.size_alloc] at h)
  have HLL : Hid (ss.length ≤ 1048577) := by show _ ≤ _; exact HL0.out
  clear hR
  by_cases hfew : ss.length ≤ 256
  case neg =>
    have HNO : Hid (numsOf t = none) := by show _ = _; rw [HN.out, if_neg hfew]
    have q1 : (256 : Int) < (ss.length : Int) := by omega
    obtain ⟨p1, cap1, rfl, -, -⟩ := RS_of_own HR.out (by have := HLL.out; omega)
    clear hfew
    go_wp2
    go_ret2
    exact NumsOut.no HNO.out HB.out
  have q1 : ¬ (256 : Int) < (ss.length : Int) := by omega
  have HNS : Hid (numsOf t = wordsOf ss) := by show _ = _; rw [HN.out, if_pos hfew]
  have HDI : Hid (Dis (.slice (some ⟨w.heap.size, 0, none⟩) 0 0) v) := fun k h1 h2 => by
    have := (World.ownsRow.lt HR.out k h2).1
    simp only [Value.ownBlock, Option.some.injEq] at h1
    omega
  obtain ⟨p1, cap1, hv, -, -⟩ := RS_of_own HR.out (by have := HLL.out; omega)
  have HV := Lib.hid hv
  clear hfew HN
  subst hv
  go_wp2_with fail
  go_loopw [4, 6] (fun o i wr => ∃ (k : Nat) (xs : List Nat), k ≤ ss.length ∧ i = .int .i64 (k : Int) ∧ OF w.heap.size wr o xs ∧ OS (w.heap.size + 1) wr (.slice p1 ss.length cap1) ss ∧ Hid (Dis o (.slice p1 ss.length cap1)) ∧ Hid (wordsOf (ss.take k) = some xs) ∧ Below w.heap.size w wr) (fun _ i _ => ss.length - (RowKit.intOf i).toNat)
  case atStart => exact ⟨0, [], Nat.zero_le _, rfl, HO.out, HR.out, HDI.out, rfl, HB.out⟩
  case round =>
    obtain ⟨k, xs, hk, rfl, ho, hr, hD, hW, hb⟩ := hrel
    by_cases hlt : k < ss.length
    · obtain ⟨q2, cap2, e2, hm2, hc2⟩ := RS_of_own hr (by have := HLL.out; omega)
      cases e2
      obtain ⟨b1, o1, rfl, hcell1⟩ := hc2.resolve_left (by omega)
      have g1 : wr.cell? ⟨b1, o1 + k, none⟩ = some (.string ss[k]) := hcell1 k _ (by simp [hlt])
      have HT := Lib.hid (wordsOf_take ss k hlt)
      have HNW : Hid (wordOf ss[k] = none → numsOf t = none) := fun h => by rw [HNS.out]; exact wordsOf_none hlt h
      have HB2 := Lib.hid hb
      have HO2 := Lib.hid ho
      have HR2 := Lib.hid hr
      have hxl : Hid (xs.length ≤ 1048577) := by show _ ≤ _; have := wordsOf_length hW.out; rw [List.length_take] at this; have := HLL.out; omega
      clear hcell1 hc2 hb ho hr HO HR HDI HB
      generalize ss[k] = p at *
      by_cases h8 : p.size = 8
      case neg =>
        have hne : ((p.size : Int) != 8) = true := by simp; omega
        have HNO := Lib.hid (HNW.out (by unfold wordOf; rw [if_neg h8]))
        clear h8
        go_wp2
        go_ret2
        exact NumsOut.no HNO.out HB2.out
      have heq : ((p.size : Int) != 8) = false := by simp; omega
      have H8 := Lib.hid h8
      clear h8
      go_wp2_with fail
      go_loopw [7, 8] (fun nn jj wi => ∃ (j acc : Nat), nn = .int .i64 (acc : Int) ∧ jj = .int .i64 (j : Int) ∧ j ≤ 8 ∧ wi = wr ∧ Hid (numFrom 0 (p.data.toList.take j) = some acc)) (fun _ jj _ => 8 - (RowKit.intOf jj).toNat)
      case atStart => exact ⟨0, 0, rfl, rfl, by omega, rfl, rfl⟩
      case round =>
        obtain ⟨j, acc, rfl, rfl, hj, rfl, hA⟩ := hrel
        have hlen : p.data.toList.length = 8 := by rw [size_list, H8.out]
        by_cases hj8 : j < 8
        · have hlt8 := (numFrom_lt _ _ _ hA.out).1
          have hl2 : (p.data.toList.take j).length = j := by rw [List.length_take, hlen]; omega
          rw [hl2] at hlt8
          have hp : 16 ^ j ≤ 16 ^ 7 := Nat.pow_le_pow_right (by decide) (by omega)
          have e7 : (16 : Nat) ^ 7 = 268435456 := by decide
          have A1 : acc < 268435456 := by omega
          have hjs : j < p.size := by rw [H8.out]; exact hj8
          have HTK := Lib.hid (numFrom_take p.data.toList j (by omega))
          have hpj : p.data.toList[j]'(by omega) = p[j]'hjs := rfl
          rw [hpj, hA.out] at HTK
          have HNX : Hid (dig (p[j]'hjs) = none → numsOf t = none) := fun h => HNW.out (wordOf_num_none (numFrom_cut _ (j + 1) (by rw [HTK.out, h]; rfl)))
          clear hp e7 hlt8 hl2 hlen hpj
          cases hd : dig (p[j]'hjs) with
          | none =>
            have HNO := Lib.hid (HNX.out hd)
            rcases dig_none hd with h | ⟨h, h'⟩ | h
            all_goals
              clear hd
              go_wp2
              go_ret2
              exact NumsOut.no HNO.out HB2.out
          | some d =>
            rw [hd] at HTK
            have HT2 : Hid (numFrom 0 (p.data.toList.take (j + 1)) = some (16 * acc + d)) := HTK.out
            have hd16 := dig_lt hd
            rcases dig_range hd with ⟨m0, m1, m2⟩ | ⟨m0, m1, m2⟩
            · clear hd HTK
              go_wp2
              refine ⟨⟨j + 1, 16 * acc + d, by congr 1; omega, by first | rfl | (congr 1; omega), by omega, trivial, HT2.out⟩, by simp [RowKit.intOf]; omega⟩
            · clear hd HTK
              go_wp2
              refine ⟨⟨j + 1, 16 * acc + d, by congr 1; omega, by first | rfl | (congr 1; omega), by omega, trivial, HT2.out⟩, by simp [RowKit.intOf]; omega⟩
        · obtain rfl : j = 8 := by omega
          have hfull : numFrom 0 p.data.toList = some acc := by have h := hA.out; rwa [List.take_of_length_le (by omega)] at h
          have hlt32 := (digits8 H8.out hfull).1
          have hw := wordOf_good H8.out hfull
          have HF := Lib.hid (s_l01From acc hlt32)
          have HBT := Lib.hid (fun W => s_l01BitsT acc W hlt32)
          clear hA hlen hfull hj8
          by_cases hc : cn .f32 acc = acc
          case neg =>
            have HNO := Lib.hid (HNW.out (by rw [hw, if_neg hc]))
            have hcne : (((cn .f32 acc : Nat) : Int) == (acc : Int)) = false := by simp; omega
            clear hw hc hlt32
            go_wp2_with (first | (go_at_call 51; refine (HF.out _).mono ?_; rintro e' w2 ⟨rfl, rfl⟩) | (go_at_call 52; refine (HBT.out _).mono ?_; rintro e' w3 ⟨rfl, n3, rfl⟩))
            go_ret2
            exact NumsOut.no HNO.out (below_drewN HB2.out _)
          case pos =>
            rw [hw, if_pos hc, hW.out] at HT
            have HT2 : Hid (wordsOf (ss.take (k + 1)) = some (xs ++ [acc])) := HT.out
            have hceq : (((cn .f32 acc : Nat) : Int) == (acc : Int)) = true := by simp; omega
            clear hw hc hlt32 HT
            go_wp2_with (first | (go_at_call 51; refine (HF.out _).mono ?_; rintro e' w2 ⟨rfl, rfl⟩) | (go_at_call 52; refine (HBT.out _).mono ?_; rintro e' w3 ⟨rfl, n3, rfl⟩) | (at_builtin; refine wpList_appAt w.heap.size xs acc rfl rfl rfl rfl (OF_belowN HO2.out (by exact (by repeat (first | exact Below.refl _ _ | assumption | refine below_drewN ?_ _ | refine below_alloc (Nat.le_refl _) ?_ _ | (refine Below.setCell ?_ (by first | exact Nat.le_refl _ | (simp; done) | (simp; omega) | omega) _) | (refine below_step (Nat.le_refl _) ?_ (by assumption)))))) (cellS_top1 _ _ rfl _ _) hxl.out (by have := HB2.out.size; simp; omega) ?_; intro u w4 h1 h2 h3))
            have hr4 := kept_dis (OS_below HR2.out (by exact (by repeat (first | exact Below.refl _ _ | assumption | refine below_drewN ?_ _ | refine below_alloc (Nat.le_refl _) ?_ _ | (refine Below.setCell ?_ (by first | exact Nat.le_refl _ | (simp; done) | (simp; omega) | omega) _) | (refine below_step (Nat.le_refl _) ?_ (by assumption)))))) h2 hD.out
            have hb4 := grown_below (OF_belowN HO2.out (by exact (by repeat (first | exact Below.refl _ _ | assumption | refine below_drewN ?_ _ | refine below_alloc (Nat.le_refl _) ?_ _ | (refine Below.setCell ?_ (by first | exact Nat.le_refl _ | (simp; done) | (simp; omega) | omega) _) | (refine below_step (Nat.le_refl _) ?_ (by assumption)))))) h2 (by have := HB2.out.size; simp; omega) (Nat.le_refl w.heap.size)
            have hd4 : Dis u (.slice (some ⟨b1, o1, none⟩) ss.length cap1) := fun q z1 z2 => by
              rcases h3 with h3 | h3
              · exact hD.out q (h3.symm.trans z1) z2
              · have := (World.ownsRow.lt HR2.out q z2).2
                rw [h3] at z1
                simp only [Option.some.injEq] at z1
                simp at z1
                omega
            have H1 := Lib.hid h1
            have H4 := Lib.hid hr4
            have HD4 := Lib.hid hd4
            have HB4 := Lib.hid (Below.trans (show Below w.heap.size w _ from by have hb := HB2.out; exact (by repeat (first | exact Below.refl _ _ | assumption | refine below_drewN ?_ _ | refine below_alloc (Nat.le_refl _) ?_ _ | (refine Below.setCell ?_ (by first | exact Nat.le_refl _ | (simp; done) | (simp; omega) | omega) _) | (refine below_step (Nat.le_refl _) ?_ (by assumption))))) hb4)
            clear h1 h2 h3 hr4 hb4 hd4
            go_roundw
            case rel => exact ⟨k + 1, xs ++ [acc], by omega, by go_num, H1.out, H4.out, HD4.out, HT2.out, HB4.out⟩
            case measure => simp [RowKit.intOf]; omega
    · obtain rfl : k = ss.length := by omega
      have HY : Hid (numsOf t = some xs) := by
        show _ = _
        rw [HNS.out]
        have h := hW.out
        rwa [List.take_length] at h
      have HO := Lib.hid ho
      have HB2 := Lib.hid hb
      clear ho hb hr
      go_wp2
      go_ret2
      exact NumsOut.ok HY.out HO.out HB2.out
end Go.Proofs.YtpkkgfjjnggijaaGreatDoor
