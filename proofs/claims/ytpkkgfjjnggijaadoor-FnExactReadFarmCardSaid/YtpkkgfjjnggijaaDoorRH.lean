/- Walks: three lists read out of one text. -/
import Derived.Test.YtpkkgfjjnggijaaDoorRF
namespace Go.Proofs.YtpkkgfjjnggijaaDoor
set_option linter.unusedSimpArgs false
set_option linter.unusedVariables false
open Go.RowKit Go.Fl Go.Tx Go.Lib

/-- The lists that texts tell. -/
def numsAll : List ByteArray → Option (List (List Nat))
  | [] => some []
  | p :: ps => match numsOf p with
    | some x => (numsAll ps).map (x :: ·)
    | none => none
theorem numsAll_none {ts : List ByteArray} {k : Nat} (hk : k < ts.length) (h : numsOf ts[k] = none) : numsAll ts = none := by
  induction ts generalizing k with
  | nil => simp at hk
  | cons t ts ih =>
    unfold numsAll
    cases k with
    | zero => simp only [List.getElem_cons_zero] at h; rw [h]
    | succ k =>
      rw [ih (k := k) (by simpa using hk) (by simpa using h)]
      cases numsOf t <;> rfl
theorem numsAll_snoc (ts : List ByteArray) (t : ByteArray) : numsAll (ts ++ [t]) = (numsAll ts).bind fun xs => (numsOf t).map fun x => xs ++ [x] := by
  induction ts with
  | nil =>
    show (match numsOf t with | some x => (numsAll []).map (x :: ·) | none => none) = _
    cases numsOf t <;> rfl
  | cons a ts ih =>
    show (match numsOf a with | some x => (numsAll (ts ++ [t])).map (x :: ·) | none => none) = _
    rw [ih]
    show _ = (match numsOf a with | some x => (numsAll ts).map (x :: ·) | none => none).bind _
    cases numsOf a with
    | none => rfl
    | some x => cases numsAll ts <;> cases numsOf t <;> rfl
theorem numsAll_take (ts : List ByteArray) (k : Nat) (hk : k < ts.length) : numsAll (ts.take (k + 1)) = (numsAll (ts.take k)).bind fun xs => (numsOf ts[k]).map fun x => xs ++ [x] := by
  rw [List.take_succ_eq_append_getElem hk, numsAll_snoc]
theorem numsAll_length : ∀ {ts : List ByteArray} {xs : List (List Nat)}, numsAll ts = some xs → xs.length = ts.length
  | [], xs, h => by cases h; rfl
  | t :: ts, xs, h => by
    unfold numsAll at h
    split at h
    · cases hs : numsAll ts with
      | none => rw [hs] at h; cases h
      | some ys =>
        rw [hs] at h
        cases h
        simp [numsAll_length hs]
    · cases h
theorem numsAll_mem : ∀ {ts : List ByteArray} {xs : List (List Nat)}, numsAll ts = some xs → ∀ x ∈ xs, ∃ t ∈ ts, numsOf t = some x
  | [], xs, h, x, hx => by cases h; simp at hx
  | t :: ts, xs, h, x, hx => by
    unfold numsAll at h
    split at h
    · rename_i y hy
      cases hs : numsAll ts with
      | none => rw [hs] at h; cases h
      | some ys =>
        rw [hs] at h
        cases h
        rcases List.mem_cons.1 hx with rfl | hx
        · exact ⟨t, by simp, hy⟩
        · obtain ⟨s, h1, h2⟩ := numsAll_mem hs x hx
          exact ⟨s, by simp [h1], h2⟩
    · cases h
/-- Three lists told by one text. -/
def threeOf (c : UInt8) (t : ByteArray) : Option (List (List Nat)) := if (cutAll c t).length = 3 then numsAll (cutAll c t) else none
theorem threeOf_len {c : UInt8} {t : ByteArray} {xs : List (List Nat)} (h : threeOf c t = some xs) : xs.length = 3 := by
  unfold threeOf at h
  split at h
  · rw [numsAll_length h]; assumption
  · cases h
theorem threeOf_few {c : UInt8} {t : ByteArray} {xs : List (List Nat)} (h : threeOf c t = some xs) : ∀ x ∈ xs, x.length ≤ 256 := fun x hx => by
  unfold threeOf at h
  split at h
  · obtain ⟨s, _, hs⟩ := numsAll_mem h x hx
    unfold numsOf at hs
    split at hs
    · cases hs; simp
    · split at hs
      · rw [wordsOf_length hs]; assumption
      · cases hs
  · cases h
/-- Slices that are a call's own, each apart from each. -/
def Parts (B : Nat) (w : World) : List Value → List (List Nat) → Prop
  | [], [] => True
  | v :: vs, x :: xs => OF B w v x ∧ (∀ u ∈ vs, Dis v u) ∧ Parts B w vs xs
  | _, _ => False
theorem Parts.length {B : Nat} {w : World} : ∀ {vs : List Value} {xs : List (List Nat)}, Parts B w vs xs → vs.length = xs.length
  | [], [], _ => rfl
  | v :: vs, x :: xs, h => by simp [h.2.2.length]
  | [], _ :: _, h => h.elim
  | _ :: _, [], h => h.elim
theorem Parts.below {B : Nat} {w w' : World} : ∀ {vs : List Value} {xs : List (List Nat)}, Parts B w vs xs → Below w.heap.size w w' → Parts B w' vs xs
  | [], [], _, _ => trivial
  | v :: vs, x :: xs, h, hb => ⟨OF_belowN h.1 hb, h.2.1, h.2.2.below hb⟩
  | [], _ :: _, h, _ => h.elim
  | _ :: _, [], h, _ => h.elim
theorem Parts.kept {B : Nat} {w w' : World} {u : Value} (hg : w.grownBy w' u.ownBlock) : ∀ {vs : List Value} {xs : List (List Nat)}, Parts B w vs xs → (∀ v ∈ vs, Dis u v) → Parts B w' vs xs
  | [], [], _, _ => trivial
  | v :: vs, x :: xs, h, hd => ⟨kept_dis h.1 hg (hd v (by simp)), h.2.1, h.2.2.kept hg fun v hv => hd v (by simp [hv])⟩
  | [], _ :: _, h, _ => h.elim
  | _ :: _, [], h, _ => h.elim
theorem Parts.snoc {B : Nat} {w : World} {v : Value} {x : List Nat} (ho : OF B w v x) : ∀ {vs : List Value} {xs : List (List Nat)}, Parts B w vs xs → (∀ u ∈ vs, Dis u v) → Parts B w (vs ++ [v]) (xs ++ [x])
  | [], [], _, _ => ⟨ho, by simp, trivial⟩
  | u :: vs, y :: xs, h, hd => ⟨h.1, fun z hz => by
      rcases List.mem_append.1 hz with hz | hz
      · exact h.2.1 z hz
      · obtain rfl : z = v := by simpa using hz
        exact hd u (by simp), h.2.2.snoc ho fun z hz => hd z (by simp [hz])⟩
  | [], _ :: _, h, _ => h.elim
  | _ :: _, [], h, _ => h.elim
theorem Parts.lt {B : Nat} {w : World} : ∀ {vs : List Value} {xs : List (List Nat)}, Parts B w vs xs → ∀ v ∈ vs, ∀ k, v.ownBlock = some k → B ≤ k ∧ k < w.heap.size
  | [], [], _, v, hv, _, _ => by simp at hv
  | u :: vs, x :: xs, h, v, hv, k, hk => by
    rcases List.mem_cons.1 hv with rfl | hv
    · exact World.ownsRow.lt h.1 k hk
    · exact h.2.2.lt v hv k hk
  | [], _ :: _, h, _, _, _, _ => h.elim
  | _ :: _, [], h, _, _, _, _ => h.elim
/-- A list of slices that is the call's own. -/
def OV (B : Nat) (w : World) (u : Value) (vs : List Value) : Prop := w.ownsRow B 29 1 u vs.length vs
theorem OV_below {B : Nat} {w w' : World} {v : Value} {vs : List Value} (h : OV B w v vs) (hb : Below w.heap.size w w') : OV B w' v vs := ownS_below h hb
theorem OV_empty (B : Nat) (w : World) (k : Nat) (hk : k = w.heap.size) (hB : B ≤ w.heap.size) (t : TypeId) (ht : t = 29) : OV B (w.alloc (.cells #[] t)) (.slice (some ⟨k, 0, none⟩) 0 0) [] := by
  subst hk ht
  exact World.ownsRow_lit w #[] 0 hB (by unfold maxLen; omega) rfl
/-- 'append' of one slice to a list of the call's own: which block is the new one's. -/
theorem wpList_appV {ops : Array Oper} {rest : List Oper} {o : Oper} {a : Act} {Q : Exit → Act → World → Prop} {w : World} (B : Nat) (vs : List Value) (r : Value) {s x : Operand} {v : Value} {g : Nat} (hgd : o.guard = none)
    (ho : o.op = .call { callee := .builtin .append, args := #[s, x], argTypes := #[47, 47] }) (hs : a.eval s = v) (hx : a.eval x = .slice (some ⟨g, 0, none⟩) 1 1)
    (hown : OV B w v vs) (hcell : w.cell? ⟨g, 0, none⟩ = some r) (hr : ∃ p n c, r = .slice p n c) (hl : vs.length ≤ 1048577) (hB : B ≤ w.heap.size)
    (h : ∀ u w', OV B w' u (vs ++ [r]) → w.grownBy w' v.ownBlock → (u.ownBlock = v.ownBlock ∨ u.ownBlock = some w.heap.size) → wpList Tryd.prog ops Q rest (a.put o.dst u) w') : wpList Tryd.prog ops Q (o :: rest) a w := by
  have hinfo : (Tryd.prog.info? 29).map (fun i => (i.zero, i.size, i.bytes)) = some (some (.slice none 0 0), 1, 24) := by kernel_rfl
  obtain ⟨i, hi, hzz⟩ := Option.map_eq_some_iff.1 hinfo
  simp only [Prod.mk.injEq] at hzz
  obtain ⟨hz, hsz, hby⟩ := hzz
  obtain ⟨rp, rn, rc, rfl⟩ := hr
  refine wpList_append_own_at w hgd s x 47 ho B 29 i (.slice none 0 0) 1 24 Tryd.underlying47 hi hz hsz hby rfl (by decide) v vs.length _ hs hown ⟨g, 0, none⟩ 1 1 [.slice rp rn rc] hx rfl ?_ ?_ (by unfold maxLen; omega) (by omega) hB ?_
  · intro j u hj
    match j, hj with
    | 0, hj => simp at hj; subst hj; simpa [Addr.add] using hcell
  · intro u hu; simp at hu; subst hu; rfl
  · intro v' w' h1 h2 _ h4
    refine h v' w' ?_ h2 h4
    show w'.ownsRow _ _ _ _ _ _
    simpa using h1
/-- What a text of three lists is read as. -/
def PartsOut (c : UInt8) (t : ByteArray) (w : World) (e : Ending) (w' : World) : Prop := ∃ u, e = .returned (.tuple #[u, .bool (threeOf c t).isSome]) ∧ (∀ xs, threeOf c t = some xs → ∃ vs, OV w.heap.size w' u vs ∧ Parts w.heap.size w' vs xs) ∧ Below w.heap.size w w'
theorem PartsOut.no {c : UInt8} {t : ByteArray} {w w' : World} (h : threeOf c t = none) (hb : Below w.heap.size w w') : PartsOut c t w (.returned (.tuple #[.slice none 0 0, .bool false])) w' :=
  ⟨_, by rw [h]; rfl, fun xs hx => by rw [h] at hx; (cases hx), hb⟩
theorem PartsOut.ok {c : UInt8} {t : ByteArray} {xs : List (List Nat)} {vs : List Value} {u : Value} {w w' : World} (h : threeOf c t = some xs) (ho : OV w.heap.size w' u vs) (hp : Parts w.heap.size w' vs xs) (hb : Below w.heap.size w w') : PartsOut c t w (.returned (.tuple #[u, .bool true])) w' :=
  ⟨_, by rw [h]; rfl, fun ys hy => by rw [h] at hy; cases hy; exact ⟨vs, ho, hp⟩, hb⟩
theorem cutAll_pos (c : UInt8) (t : ByteArray) : 0 < (cutAll c t).length := (cutAll_len c t).1
theorem Parts_le {B B' : Nat} {w : World} (hb : B' ≤ B) : ∀ {vs : List Value} {xs : List (List Nat)}, Parts B w vs xs → Parts B' w vs xs
  | [], [], _ => trivial
  | v :: vs, x :: xs, h => ⟨OF_leN h.1 hb, h.2.1, Parts_le hb h.2.2⟩
  | [], _ :: _, h => h.elim
  | _ :: _, [], h => h.elim
theorem OV_le {B B' : Nat} {w : World} {v : Value} {vs : List Value} (h : OV B w v vs) (hb : B' ≤ B) : OV B' w v vs :=
  ⟨h.1, h.2.imp id fun ⟨g, cap, cur, e, hb1, r⟩ => ⟨g, cap, cur, e, Nat.le_trans hb hb1, r⟩⟩
set_option maxRecDepth 100000 in
set_option maxHeartbeats 2000000 in
theorem i_partsOf (c : UInt8) (t sep : ByteArray) (hsep : sep = ⟨#[c]⟩) (hs : t.size ≤ 1048576) (w : World) (hg : RG w) : Calls Tryd.prog 24 #[.string t, .string sep, .int .i64 3] w (PartsOut c t w) := by
  obtain ⟨M, hm⟩ := hg.len
  have HM := Lib.hid hm
  have HG := Lib.hid hg
  have HS := Lib.hid (fun p (hp : p ∈ cutAll c t) => Nat.le_trans (cutAll_size c t hp) hs)
  have HSP := Lib.hid (splitB_cutAll c t sep (by rw [hsep]))
  have HCL := Lib.hid (countB_len c t sep (by rw [hsep]))
  have HLL : Hid ((cutAll c t).length ≤ 1048577) := by show _ ≤ _; have := (cutAll_len c t).2; omega
  have HPOS := Lib.hid (cutAll_pos c t)
  have HN : Hid (threeOf c t = if (cutAll c t).length = 3 then numsAll (cutAll c t) else none) := rfl
  have HSPL := Lib.hid (Tryd.strings_Split t sep M w (by omega) HM.out (by rw [hsep]; exact Nat.le_refl 1))
  clear hm hg hs hsep
  go_enter Tryd.func24, Tryd.ntmps24
  go_wp2_with fail
  refine HSPL.out.mono ?_
  rintro e' w' ⟨rfl, rfl⟩
  rw [HSP.out, ← HCL.out]
  clear HSPL HSP HCL HM
  generalize cutAll c t = ss at *
  have HR0 := Lib.hid (RS_topN w _ rfl ss 9 (by have := HLL.out; omega))
  obtain ⟨w1, hw1⟩ : ∃ w1, w1 = w.alloc (.cells (ss.map Value.string).toArray 9) := ⟨_, rfl⟩
  have HB : Hid (Below w.heap.size w w1) := by rw [hw1]; exact below_alloc (Nat.le_refl _) (Below.refl _ _) _
  rw [← hw1] at HR0
  rw [← hw1]
  clear hw1
  obtain ⟨p1, cap1, he1, hm1, hc1⟩ := HR0.out
  rw [he1]
  have HC1 := Lib.hid hc1
  clear hc1 he1 HR0
  go_wp2_with fail
  go_loopw [9, 20] (fun o i wr => ∃ (k : Nat) (vs : List Value) (xs : List (List Nat)), k ≤ ss.length ∧ i = .int .i64 (k : Int) ∧ OV w1.heap.size wr o vs ∧ Hid (Parts w1.heap.size wr vs xs) ∧ Hid (∀ v ∈ vs, Dis o v) ∧ Hid (numsAll (ss.take k) = some xs) ∧ Hid (k = 0 ∨ ss.length = 3) ∧ Below w1.heap.size w1 wr) (fun _ i _ => ss.length - (RowKit.intOf i).toNat)
  case atStart => exact ⟨0, [], [], Nat.zero_le _, rfl, OV_empty _ _ _ rfl (Nat.le_refl _) _ rfl, trivial, fun v hv => by simp at hv, rfl, .inl rfl, below_alloc (Nat.le_refl _) (Below.refl _ _) _⟩
  case round =>
    obtain ⟨k, vs, xs, hk, rfl, ho, hP, hD, hW, hF, hb1⟩ := hrel
    have hb := below_step (Nat.le_refl _) HB.out hb1
    by_cases hlt : k < ss.length
    · obtain ⟨b1, o1, rfl, hcell1⟩ := HC1.out.resolve_left (by omega)
      have g1 : w1.cell? ⟨b1, o1 + k, none⟩ = some (.string ss[k]) := hcell1 k _ (by simp [hlt])
      have g1 := (hb1.cell (p := ⟨b1, o1 + k, none⟩) (block_lt_of_cell g1)).trans g1
      have HRD := Lib.hid (i_ReadNumbers ss[k] (by have := HS.out _ (List.getElem_mem hlt); omega) wr (HG.out.below hb))
      have HT := Lib.hid (numsAll_take ss k hlt)
      have HNW : Hid (numsOf ss[k] = none → threeOf c t = none) := fun h => by rw [HN.out]; split; exact numsAll_none hlt h; rfl
      have HB2 := Lib.hid hb
      have HB3 := Lib.hid hb1
      have HO := Lib.hid ho
      have hvl : Hid (vs.length ≤ 1048577) := by show _ ≤ _; have := hP.out.length; have h2 := numsAll_length hW.out; rw [List.length_take] at h2; have := HLL.out; omega
      clear hcell1 hb hb1 ho
      generalize ss[k] = p at *
      go_wp2_with fail
      refine HRD.out.mono ?_
      rintro e' w2 ⟨u, rfl, hu, hb⟩
      have HB4 := Lib.hid (below_step (Nat.le_refl _) HB2.out hb)
      have HB5 := Lib.hid (below_step (Nat.le_refl _) HB3.out hb)
      have HO2 := Lib.hid (OV_below HO.out hb)
      have HP2 := Lib.hid (hP.out.below hb)
      cases hwo : numsOf p with
      | none =>
        have HNO := Lib.hid (HNW.out hwo)
        clear hb hu hwo HRD HB2 HB3 HO
        dsimp only [Option.isSome_none, Option.isSome_some]
        go_wp2
        go_ret2
        exact PartsOut.no HNO.out HB4.out
      | some x =>
        rw [hwo] at HT hu
        rw [hW.out] at HT
        have HT2 : Hid (numsAll (ss.take (k + 1)) = some (xs ++ [x])) := HT.out
        have hux : OF wr.heap.size w2 u x := hu
        have HDO : Hid (Dis u9 u) := dis_of HO.out (Nat.le_refl _) hux
        have HDV : Hid (∀ z ∈ vs, Dis z u) := fun z hz q h1 h2 => by
          have := (hP.out.lt z hz q h1).2
          have := (World.ownsRow.lt hux q h2).1
          omega
        have HU : Hid (OF w1.heap.size w2 u x) := OF_leN hux HB3.out.size
        have hus : ∃ p n c, u = .slice p n c := by
          obtain ⟨p, c, e, _⟩ := RF_of_own hux (by have := numsOf_len hwo; omega)
          exact ⟨p, _, c, e⟩
        have HUB : Hid (∀ q, u.ownBlock = some q → q < w2.heap.size) := fun q h => (World.ownsRow.lt hux q h).2
        clear hb hwo HT hu hux HRD HB2 HB3 HO
        obtain ⟨up, un, uc, rfl⟩ := hus
        dsimp only [Option.isSome_none, Option.isSome_some]
        by_cases hfew : ss.length = 3
        · have q0 : ((ss.length : Int) != 3) = false := by simp; omega
          have HFEW := Lib.hid hfew
          clear hfew
          have HO3 := Lib.hid (OV_below HO2.out (below_alloc (Nat.le_refl _) (Below.refl _ _) (.cells #[.slice up un uc] 29)))
          have HP3 := Lib.hid (Parts.below HP2.out (below_alloc (Nat.le_refl _) (Below.refl _ _) (.cells #[.slice up un uc] 29)))
          have HU3 := Lib.hid (OF_belowN HU.out (below_alloc (Nat.le_refl _) (Below.refl _ _) (.cells #[.slice up un uc] 29)))
          go_wp2_with (at_builtin; refine wpList_appV w1.heap.size vs _ rfl rfl rfl rfl HO3.out (cellS_top1 _ _ rfl _ _) ⟨_, _, _, rfl⟩ hvl.out (by rw [World.size_alloc]; have := HB5.out.size; omega) ?_; intro o3 w3 h1 h2 h3)
          have HP4 := Lib.hid (Parts.snoc (kept_dis HU3.out h2 HDO.out) (Parts.kept h2 HP3.out hD.out) HDV.out)
          have HD4 : Hid (∀ v ∈ vs ++ [.slice up un uc], Dis o3 v) := fun v hv q z1 z2 => by
            have hv' : v ∈ vs ∨ v = .slice up un uc := by simpa using hv
            rcases h3 with h3 | h3
            · rw [h3] at z1
              rcases hv' with hv' | rfl
              · exact hD.out v hv' q z1 z2
              · exact HDO.out q z1 z2
            · rw [h3] at z1
              simp only [Option.some.injEq, World.size_alloc] at z1
              rcases hv' with hv' | rfl
              · have := (HP2.out.lt v hv' q z2).2; omega
              · have := HUB.out q z2; omega
          have HB6 := Lib.hid (Below.trans (below_alloc (Nat.le_refl _) HB5.out (.cells #[.slice up un uc] 29)) (grown_below HO3.out h2 (by rw [World.size_alloc]; have := HB5.out.size; omega) (Nat.le_refl _)))
          have H1 := Lib.hid h1
          clear h1 h2 h3 HO3 HP3 HU3
          go_roundw
          case rel => exact ⟨k + 1, vs ++ [.slice up un uc], xs ++ [x], by omega, by go_num, H1.out, HP4, HD4, HT2.out, .inr HFEW.out, HB6.out⟩
          case measure => simp [RowKit.intOf]; omega
        · have q0 : ((ss.length : Int) != 3) = true := by simp; omega
          have HNO : Hid (threeOf c t = none) := by show _ = _; rw [HN.out, if_neg hfew]
          clear hfew
          go_wp2
          go_ret2
          exact PartsOut.no HNO.out HB4.out
    · obtain rfl : k = ss.length := by omega
      have HY : Hid (threeOf c t = some xs) := by
        show _ = _
        rw [HN.out, if_pos (hF.out.elim (fun h => absurd h (by have := HPOS.out; omega)) id)]
        have h := hW.out
        rwa [List.take_length] at h
      have HO := Lib.hid ho
      have HB2 := Lib.hid hb
      clear ho hb hb1
      go_wp2
      go_ret2
      exact PartsOut.ok HY.out (OV_le HO.out HB.out.size) (Parts_le HB.out.size hP.out) HB2.out
end Go.Proofs.YtpkkgfjjnggijaaDoor
