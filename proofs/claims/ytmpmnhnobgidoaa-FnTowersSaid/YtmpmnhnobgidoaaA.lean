/- Walks: finite numbers, slices searched by a function. -/
import Derived.Test.YtmpmnhnobgidoaaRows
import Derived.Test.YtmpmnhnobgidoaaR
namespace Go.Proofs.Ytmpmnhnobgidoaa
set_option linter.unusedSimpArgs false
set_option linter.unusedVariables false
open Go.RowKit Go.Fl

theorem below_step {B : Nat} {a b c : World} (hB : B ≤ a.heap.size) (h1 : Below B a b) (h2 : Below b.heap.size b c) : Below B a c :=
  h1.trans (h2.mono (Nat.le_trans hB h1.size))

theorem below_alloc {B : Nat} {a b : World} (hB : B ≤ a.heap.size) (h : Below B a b) (o : Obj) : Below B a (b.alloc o) := h.alloc (Nat.le_trans hB h.size) o

/-- A slice value of n elements, whose cells, one behind the other, are cs. -/
def Sl (w : World) (v : Value) (n : Nat) (cs : List Value) : Prop :=
  ∃ p cap, v = .slice p n cap ∧ n ≤ 281474976710656 ∧ (n = 0 ∨ ∃ b off, p = some ⟨b, off, none⟩ ∧ ∀ j u, cs[j]? = some u → w.cell? ⟨b, off + j, none⟩ = some u)
/-- A slice of 32-bit numbers. -/
def RF (w : World) (v : Value) (xs : List Nat) : Prop := Sl w v xs.length (xs.map (Value.float .f32))
theorem Sl.drewN {w : World} {v : Value} {n : Nat} {cs : List Value} (h : Sl w v n cs) (k : Nat) : Sl (w.drewN k) v n cs := h
theorem RF.drewN {w : World} {v : Value} {xs : List Nat} (h : RF w v xs) (k : Nat) : RF (w.drewN k) v xs := h

theorem i_IsFinite (x : Nat) (w : World) : Calls Try.prog 82 #[.float .f32 x] w fun e w' => e = .returned (.bool (fin .f32 x)) ∧ ∃ n, w' = w.drewN n := by
  go_enter Try.func82, Try.ntmps82
  go_wp2_with (refine wpList_fa rfl rfl rfl rfl rfl (by first | assumption | exact hrfl _) (by first | assumption | exact hrfl _) ?_; intro r n hr)
  go_ret
  exact ⟨by rw [← fin_sub, ← od_cn_left, hr.out, fa_cn_left, fa_cn_right]; rfl, n, rfl⟩
theorem i_arePositive_1 (x : Nat) (w : World) : Calls Try.prog 90 #[.float .f32 x] w fun e w' => e = .returned (.bool (!fin .f32 x || fle .f32 x 0)) ∧ ∃ n, w' = w.drewN n := by
  go_enter Try.func90, Try.ntmps90
  go_wp2_with (go_at_call 82; refine (i_IsFinite _ _).mono ?_; rintro e w' ⟨rfl, n, rfl⟩)
  all_goals
    go_ret
    exact ⟨by simp_all [fle], n, rfl⟩
theorem i_areFinite_1 (x : Nat) (w : World) : Calls Try.prog 86 #[.float .f32 x] w fun e w' => e = .returned (.bool (!fin .f32 x)) ∧ ∃ n, w' = w.drewN n := by
  go_enter Try.func86, Try.ntmps86
  go_wp2_with (go_at_call 82; refine (i_IsFinite _ _).mono ?_; rintro e w' ⟨rfl, n, rfl⟩)
  go_ret
  exact ⟨rfl, n, rfl⟩
/-- what an index is, -1 for none -/
def idxOf (o : Option Nat) : Int := match o with | some i => i | none => -1
def noneYet {α : Type} (p : α → Bool) (xs : List α) (k : Nat) : Prop := ∀ j (h : j < xs.length), j < k → p xs[j] = false
theorem noneYet_zero {α : Type} (p : α → Bool) (xs : List α) : noneYet p xs 0 := fun _ _ h => absurd h (by omega)
theorem noneYet_succ {α : Type} {p : α → Bool} {xs : List α} {k : Nat} (h : noneYet p xs k) (hk : k < xs.length) (hp : p xs[k] = false) : noneYet p xs (k + 1) := fun j hj hjk => by
  by_cases e : j = k
  · subst e; exact hp
  · exact h j hj (by omega)
theorem idxOf_found {α : Type} {p : α → Bool} {xs : List α} {k : Nat} (h : noneYet p xs k) (hk : k < xs.length) (hp : p xs[k] = true) : idxOf (xs.findIdx? p) = (k : Int) := by
  have : xs.findIdx? p = some k := by
    rw [List.findIdx?_eq_some_iff_getElem]
    exact ⟨hk, hp, fun j hj => by rw [h j (by omega) hj]; simp⟩
  rw [this]; rfl
theorem idxOf_none {α : Type} {p : α → Bool} {xs : List α} {k : Nat} (h : noneYet p xs k) (hk : xs.length ≤ k) : idxOf (xs.findIdx? p) = -1 := by
  have : xs.findIdx? p = none := by
    rw [List.findIdx?_eq_none_iff]
    intro x hx
    obtain ⟨j, hj, rfl⟩ := List.getElem_of_mem hx
    exact h j hj (by omega)
  rw [this]; rfl
theorem idxOf_ge {α : Type} (p : α → Bool) (xs : List α) : decide (0 ≤ idxOf (xs.findIdx? p)) = xs.any p := by
  cases h : xs.findIdx? p with
  | none =>
    rw [List.findIdx?_eq_none_iff] at h
    have : xs.any p = false := by rw [List.any_eq_false]; intro x hx; rw [h x hx]; decide
    rw [this]; rfl
  | some i =>
    rw [List.findIdx?_eq_some_iff_getElem] at h
    obtain ⟨hi, hp, -⟩ := h
    have : xs.any p = true := by rw [List.any_eq_true]; exact ⟨_, List.getElem_mem hi, hp⟩
    rw [this]; simp [idxOf]
set_option maxHeartbeats 400000 in
theorem f_IndexFunc_f32 (g : Nat) (p : Nat → Bool) (hg : ∀ args W, (callFunc g args).run Try.prog W = .ok (.enter g args) W) (H : ∀ x W, Calls Try.prog g #[.float .f32 x] W fun e w' => e = .returned (.bool (p x)) ∧ ∃ n, w' = W.drewN n) (v : Value) (xs : List Nat) (w : World) (hv : RF w v xs) :
    Calls Try.prog 104 #[v, .func (.func g) #[] #[]] w fun e w' => e = .returned (.int .i64 (idxOf (xs.findIdx? p))) ∧ ∃ n, w' = w.drewN n := by
  obtain ⟨pp, cap, rfl, hm, hc⟩ := hv
  have HH := Lib.hid H
  clear H
  go_enter Try.func104, Try.ntmps104
  go_wp2_with fail
  go_loopw [8] (fun i wr => ∃ k n : Nat, k ≤ xs.length ∧ i = .int .i64 k ∧ wr = w.drewN n ∧ noneYet p xs k) (fun i _ => xs.length - (intOf i).toNat)
  case atStart => exact ⟨0, 0, Nat.zero_le _, rfl, rfl, noneYet_zero _ _⟩
  case round =>
    obtain ⟨k, n, hk, rfl, rfl, hn⟩ := hrel
    by_cases hlt : k < xs.length
    · obtain ⟨b, off, rfl, hcell⟩ := hc.resolve_left (by omega)
      have hk1 : w.cell? ⟨b, off + k, none⟩ = some (.float .f32 xs[k]) := hcell k _ (by simp [hlt])
      clear hcell hc
      cases hp : p xs[k]
      all_goals
        have HP := Lib.hid hp
        clear hp
        go_wp2_with (refine (HH.out _ _).mono ?_; rintro e w' ⟨rfl, m, rfl⟩; rw [HP.out])
      · go_roundw
        case rel => exact ⟨k + 1, _, by omega, by go_num, rfl, noneYet_succ hn hlt HP.out⟩
        case measure => simp [intOf]; omega
      · go_ret
        exact ⟨by rw [idxOf_found hn hlt HP.out]; rfl, _, rfl⟩
    · go_wp2
      go_ret
      exact ⟨by rw [idxOf_none hn (by omega)]; rfl, _, rfl⟩
theorem f_ContainsFunc_f32 (g : Nat) (p : Nat → Bool) (hg : ∀ args W, (callFunc g args).run Try.prog W = .ok (.enter g args) W) (H : ∀ x W, Calls Try.prog g #[.float .f32 x] W fun e w' => e = .returned (.bool (p x)) ∧ ∃ n, w' = W.drewN n) (v : Value) (xs : List Nat) (w : World) (hv : RF w v xs) :
    Calls Try.prog 85 #[v, .func (.func g) #[] #[]] w fun e w' => e = .returned (.bool (xs.any p)) ∧ ∃ n, w' = w.drewN n := by
  have hb := idxOf_ge p xs
  have Hg := Lib.hid hg
  have HH := Lib.hid H
  clear H hg
  go_enter Try.func85, Try.ntmps85
  go_wp2_with (go_at_call 104; refine (f_IndexFunc_f32 g p Hg.out HH.out v xs _ hv).mono ?_; rintro e w' ⟨rfl, n, rfl⟩)
  go_ret
  exact ⟨by first | rfl | simp [← hb], n, rfl⟩
def finAll (xs : List Nat) : Bool := xs.all (fin .f32)
theorem i_areFinite (v : Value) (xs : List Nat) (w : World) (hv : RF w v xs) : Calls Try.prog 52 #[v] w fun e w' => e = .returned (.bool (finAll xs)) ∧ ∃ n, w' = w.drewN n := by
  have hb : (!xs.any (fun x => !fin .f32 x)) = finAll xs := by simp [finAll, List.any_eq_not_all_not]
  go_enter Try.func52, Try.ntmps52
  go_wp2_with (go_at_call 85; refine (f_ContainsFunc_f32 _ (fun x => !fin .f32 x) (run_enter Try.func86 (by kernel_rfl) rfl) i_areFinite_1 v xs _ hv).mono ?_; rintro e w' ⟨rfl, n, rfl⟩)
  go_ret
  exact ⟨by first | rfl | simp [← hb], n, rfl⟩
/-- finite and greater than 0 -/
def above (x : Nat) : Bool := fin .f32 x && fgt .f32 x 0
def aboveAll (xs : List Nat) : Bool := xs.all above
/-- finite and at least 0 -/
def least (x : Nat) : Bool := fin .f32 x && fge .f32 x 0
theorem fle_not (k : FloatKind) (x y : Nat) (hx : isNan k x = false) (hy : isNan k y = false) : fle k x y = !fgt k x y := by
  unfold fle fgt Ieee.Format.order
  unfold isNan at hx hy
  cases h1 : k.format.read x <;> cases h2 : k.format.read y <;> rw [h1] at hx <;> rw [h2] at hy <;> simp [Ieee.Datum.isNaN] at hx hy <;> simp only [Ieee.Datum.order]
  · generalize compare (Ieee.signed _ _ _) (Ieee.signed _ _ _) = c; cases c <;> rfl
  · rename_i s; cases s <;> rfl
  · rename_i s _ _ _; cases s <;> rfl
  · generalize compare (Bool.toNat _) (Bool.toNat _) = c; cases c <;> rfl
theorem notNan_of_fin {k : FloatKind} {x : Nat} (h : fin k x = true) : isNan k x = false := by
  unfold fin at h; unfold isNan
  cases hx : k.format.read x <;> rw [hx] at h <;> first | rfl | cases h
theorem not_above (x : Nat) : (!fin .f32 x || fle .f32 x 0) = !above x := by
  unfold above
  cases h : fin .f32 x with
  | false => rfl
  | true => rw [fle_not _ _ _ (notNan_of_fin h) (by decide)]; rfl
theorem i_arePositive (v : Value) (xs : List Nat) (w : World) (hv : RF w v xs) : Calls Try.prog 57 #[v] w fun e w' => e = .returned (.bool (aboveAll xs)) ∧ ∃ n, w' = w.drewN n := by
  have hb : (!xs.any (fun x => !above x)) = aboveAll xs := by simp [aboveAll, List.any_eq_not_all_not]
  go_enter Try.func57, Try.ntmps57
  go_wp2_with (go_at_call 85; refine (f_ContainsFunc_f32 _ (fun x => !above x) (run_enter Try.func90 (by kernel_rfl) rfl) (fun x W => by simpa only [not_above] using i_arePositive_1 x W) v xs _ hv).mono ?_; rintro e w' ⟨rfl, n, rfl⟩)
  go_ret
  exact ⟨by first | rfl | simp [← hb], n, rfl⟩
theorem i_isLeast (x : Nat) (w : World) : Calls Try.prog 70 #[.float .f32 x] w fun e w' => e = .returned (.bool (least x)) ∧ ∃ n, w' = w.drewN n := by
  go_enter Try.func70, Try.ntmps70
  go_wp2_with (go_at_call 82; refine (i_IsFinite _ _).mono ?_; rintro e w' ⟨rfl, n, rfl⟩)
  all_goals
    go_ret
    exact ⟨by simp_all [fge, least], n, rfl⟩
theorem s_l01Finite (x : Nat) (w : World) : Calls Try.prog 78 #[.float .f32 x] w fun e w' => e = .returned (.bool (fin .f32 x)) ∧ ∃ n, w' = w.drewN n := by
  go_enter Try.func78, Try.ntmps78
  go_wp2_with (refine wpList_fa rfl rfl rfl rfl rfl (by first | assumption | exact hrfl _) (by first | assumption | exact hrfl _) ?_; intro r n hr)
  go_ret
  exact ⟨by rw [← fin_sub, ← od_cn_left, hr.out, fa_cn_left, fa_cn_right]; rfl, n, rfl⟩
theorem l_sameFloat (a b : Nat) (h : cn .f64 a = cn .f64 b) (w : World) : Calls Try.prog 80 #[.float .f64 a, .float .f64 b] w fun e w' => e = .returned (.bool true) ∧ ∃ n, w' = w.drewN n := by
  by_cases hn : isNan .f64 a = true
  · have hn2 : isNan .f64 b = true := by rw [← isNan_cn, ← h, isNan_cn]; exact hn
    have h1 := od_nan_left (y := a) hn
    have h2 := od_nan_left (y := b) hn2
    clear h hn hn2
    go_enter Try.func80, Try.ntmps80
    go_wp2
    go_ret
    exact ⟨rfl, 0, rfl⟩
  · have hn1 : isNan .f64 a = false := by simpa using hn
    have hn2 : isNan .f64 b = false := by rw [← isNan_cn, ← h, isNan_cn]; exact hn1
    rw [cn_of_not hn1, cn_of_not hn2] at h
    subst h
    have h1 := order_self hn1
    clear hn hn1 hn2
    by_cases hz : FloatKind.f64.format.order a 0 = some .eq
    · go_enter Try.func80, Try.ntmps80
      go_wp2_with (refine wpList_fa rfl rfl rfl rfl rfl (by first | assumption | exact hrfl _) (by first | assumption | exact hrfl _) ?_; intro r n hr)
      go_ret
      have e : ∀ r1 r2, Hid (cn .f64 r1 = fa .quo .f64 (cn .f64 4607182418800017408) (cn .f64 a)) → Hid (cn .f64 r2 = fa .quo .f64 (cn .f64 4607182418800017408) (cn .f64 a)) →
          FloatKind.f64.format.order r1 0 = FloatKind.f64.format.order r2 0 := fun r1 r2 e1 e2 => od_congr (e1.out.trans e2.out.symm) rfl
      rename_i r1 n1 hr1
      exact ⟨by simp [e _ _ hr1 hr], _, rfl⟩
    · go_enter Try.func80, Try.ntmps80
      go_wp2
      go_ret
      exact ⟨rfl, 0, rfl⟩
theorem i_checked (x : Nat) (w : World) : Calls Try.prog 49 #[.float .f32 x] w fun e w' => e = .returned (.tuple #[.float .f32 (num x), .bool (fin .f32 x)]) ∧ ∃ n, w' = w.drewN n := by
  go_enter Try.func49, Try.ntmps49
  go_wp2_with (go_at_call 82; refine (i_IsFinite _ _).mono ?_; rintro e w' ⟨rfl, n, rfl⟩)
  all_goals
    go_ret2
    exact ⟨by simp_all [num], n, rfl⟩
end Go.Proofs.Ytmpmnhnobgidoaa
