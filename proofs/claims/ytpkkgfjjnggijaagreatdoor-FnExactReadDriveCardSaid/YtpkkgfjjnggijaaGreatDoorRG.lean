/- The variables of the library that a reader reads. -/
import Derived.Test.YtpkkgfjjnggijaaGreatDoorRB
namespace Go.Proofs.YtpkkgfjjnggijaaGreatDoor
set_option linter.unusedSimpArgs false
set_option linter.unusedVariables false
open Go.RowKit Go.Fl Go.Tx Go.Lib

theorem err_of_head {P : Program} {W : World} {name : String} {D : DataW Unit} {rest : List (String × DataW Unit)} {g : Nat} {t : TypeId} {ms : _}
    (hg : P.globalNamed name = some g) (hty : (P.globals[g]?).map (·.type) = some t) (ht : P.underlying t = some (.interface ms))
    (h : laidMet P ((name, D) :: rest) W) : ∃ ev, W.cell? ⟨g, 0, none⟩ = some ev ∧ (ev = .nilIface ∨ ∃ te pe, ev = .iface te pe) := by
  obtain ⟨ps, ⟨g', t', cs, fuel, p, q, hg', ht', hvar, hd, _, _⟩, _⟩ := h
  obtain rfl := Option.some.inj (hg.symm.trans hg')
  obtain rfl := Option.some.inj (hty.symm.trans ht')
  have hc := fun i => World.var?_cell hg hvar i
  cases fuel with
  | zero => simp [DataW.trod] at hd
  | succ n =>
    unfold DataW.trod at hd
    rw [ht] at hd
    split at hd <;> try (simp at hd; done)
    all_goals
      rename_i e1 e2
      first
        | (exfalso; simp at e1; done)
        | (exfalso; simp at e2; done)
        | (refine ⟨_, (by rw [hc 0, ← Array.getElem?_toList, e2]; rfl), ?_⟩; first | exact .inl rfl | exact .inr ⟨_, _, rfl⟩)
/-- What a reader needs of the library's variables. -/
structure RG (w : World) : Prop where
  syn : ∃ ev, w.cell? ⟨2, 0, none⟩ = some ev ∧ (ev = .nilIface ∨ ∃ te pe, ev = .iface te pe)
  ran : ∃ ev, w.cell? ⟨3, 0, none⟩ = some ev ∧ (ev = .nilIface ∨ ∃ te pe, ev = .iface te pe)
  len : ∃ M, w.cell? ⟨1, 0, none⟩ = some (.int .i64 M)
  tab : T64 w
theorem RG.below {w w' : World} (h : RG w) (hb : Below w.heap.size w w') : RG w' := by
  obtain ⟨⟨e1, c1, k1⟩, ⟨e2, c2, k2⟩, ⟨M, c3⟩, t⟩ := h
  exact ⟨⟨e1, (hb.cell (lt_of_cell c1)).trans c1, k1⟩, ⟨e2, (hb.cell (lt_of_cell c2)).trans c2, k2⟩, ⟨M, (hb.cell (lt_of_cell c3)).trans c3⟩, T64_below t hb⟩
set_option maxHeartbeats 1000000 in
/-- strconv.ParseUint(t, 16, 32) of 8 digits. -/
theorem f_ParseUint_ok (t : ByteArray) (n : Nat) (hs : t.size = 8) (hn : numFrom 0 t.data.toList = some n) (w : World) :
    Calls Tryz.prog 61 #[.string t, .int .i64 16, .int .i64 32] w fun e w' => e = .returned (.tuple #[.int .u64 (n : Int), .nilIface]) ∧ Below w.heap.size w w' := by
  have H := Lib.hid (f_ParseUintI_ok t n hs hn w)
  clear hs hn
  go_enter Tryz.func61, Tryz.ntmps61
  go_wp2_with fail
  refine H.out.mono ?_
  rintro e' w1 ⟨rfl, hb⟩
  have HB := Lib.hid hb
  clear hb H
  go_wp2
  go_ret2
  exact ⟨rfl, HB.out⟩
set_option maxHeartbeats 1000000 in
/-- .. of any text. -/
theorem f_ParseUint_any (t : ByteArray) (hs : t.size ≤ 1048577) (w : World) (hg : RG w) :
    Calls Tryz.prog 61 #[.string t, .int .i64 16, .int .i64 32] w fun e w' => (∃ (m : Int) (ev : Value), e = .returned (.tuple #[.int .u64 m, ev]) ∧ 0 ≤ m ∧ m < 18446744073709551616 ∧ (ev = .nilIface ∨ ∃ te pe, ev = .iface te pe)) ∧ Below w.heap.size w w' := by
  have H := Lib.hid (f_ParseUintI_any t hs w)
  have HG := Lib.hid hg
  have HS := Lib.hid hs
  clear hs hg
  go_enter Tryz.func61, Tryz.ntmps61
  go_wp2_with fail
  refine H.out.mono ?_
  rintro e' w1 ⟨⟨m, ev, rfl, m0, m1, hev⟩, hb⟩
  have HB := Lib.hid hb
  have HG1 := Lib.hid (HG.out.below hb)
  have HM := Lib.hid (show 0 ≤ m ∧ m < 18446744073709551616 from ⟨m0, m1⟩)
  clear hb H HG m0 m1
  rcases hev with rfl | rfl | rfl
  · go_wp2
    go_ret2
    exact ⟨⟨m, .nilIface, rfl, HM.out.1, HM.out.2, .inl rfl⟩, HB.out⟩
  · obtain ⟨ev, c1, k1⟩ := HG1.out.syn
    have HT := Lib.hid (Tryz.strconv_toError_syntax ⟨#[80, 97, 114, 115, 101, 85, 105, 110, 116]⟩ t 16 32 ev w1 (by have := HS.out; omega) c1 k1)
    clear c1 k1
    go_wp2_with fail
    refine HT.out.mono ?_
    rintro e' w2 ⟨N, rfl, -, -, hb2⟩
    go_wp2
    go_ret2
    exact ⟨⟨m, _, rfl, HM.out.1, HM.out.2, .inr ⟨_, _, rfl⟩⟩, below_step (Nat.le_refl _) HB.out hb2⟩
  · obtain ⟨ev, c1, k1⟩ := HG1.out.ran
    have HT := Lib.hid (Tryz.strconv_toError_range ⟨#[80, 97, 114, 115, 101, 85, 105, 110, 116]⟩ t 16 32 ev w1 (by have := HS.out; omega) c1 k1)
    clear c1 k1
    go_wp2_with fail
    refine HT.out.mono ?_
    rintro e' w2 ⟨N, rfl, -, -, hb2⟩
    go_wp2
    go_ret2
    exact ⟨⟨m, _, rfl, HM.out.1, HM.out.2, .inr ⟨_, _, rfl⟩⟩, below_step (Nat.le_refl _) HB.out hb2⟩
theorem run_frombits (n : Nat) (w : World) : (callFunc 62 #[.int .u32 (n : Int)]).run Tryz.prog w = .ok (.value (.float .f32 n)) w := by
  rw [run_callFunc_extern (e := Extern.MathFloatBits.float32frombits) Tryz.func62 (by kernel_rfl) (by kernel_rfl) (by kernel_rfl) (by kernel_rfl)]
  rfl
end Go.Proofs.YtpkkgfjjnggijaaGreatDoor
