/- Cycles on whole numbers: the sums, the greatest, the other sign. -/
import Derived.Test.YtmpmnhnobgidoaaVN
namespace Go.Proofs.Ytmpmnhnobgidoaa
set_option linter.unusedSimpArgs false
set_option linter.unusedVariables false
open Go.RowKit Go.Fl Go.Lib

theorem tail_halves' : ∀ (f : List Int) (a : Int), halves (tailF (a :: f)) = f.length
  | [], _ => rfl
  | b :: r, a => by
    have ih := tail_halves' r b
    have e : tailF (a :: b :: r) = icOf a b false :: tailF (b :: r) := rfl
    rw [e]
    unfold halves
    rw [icOf_wh, ih, if_neg (by decide), List.length_cons]
    omega
theorem tail_halves (f : List Int) : halves (tailF f) = f.length - 1 := by
  cases f with
  | nil => rfl
  | cons a f => rw [tail_halves']; rfl
theorem tail_mem : ∀ {f : List Int} {c : IC}, c ∈ tailF f → ∃ u v a b, f = u ++ a :: b :: v ∧ c = icOf a b false
  | a :: b :: r, c, h => by
    rcases List.mem_cons.1 h with h | h
    · exact ⟨[], r, a, b, rfl, h⟩
    · obtain ⟨u, v, a', b', h1, h2⟩ := tail_mem h
      exact ⟨a :: u, v, a', b', by rw [h1]; rfl, h2⟩
theorem mid {x y z : Int} (h1 : (x < y ∧ z < y) ∨ (y < x ∧ y < z)) (h2 : ab x y < ab y z) : (z < x ∧ x < y) ∨ (y < x ∧ x < z) := by
  unfold ab at h2
  rcases h1 with h1 | h1
  · exact .inl (by omega)
  · exact .inr (by omega)
def Btw (p q e : Int) : Prop := (p ≤ e ∧ e ≤ q) ∨ (q ≤ e ∧ e ≤ p)
theorem btw_mid {p q x y z : Int} (hy : Btw p q y) (hz : Btw p q z) (h : (z < x ∧ x < y) ∨ (y < x ∧ x < z)) : Btw p q x := by
  rcases hy with hy | hy <;> rcases hz with hz | hz <;> rcases h with h | h <;> first | exact .inl (by omega) | exact .inr (by omega)
/-- The first two hold all. -/
theorem first_hull {p q : Int} : ∀ {u : List Int}, Zig (u ++ [q, p]) → Fall (u ++ [q, p]) → ∀ e ∈ u ++ [q, p], Btw p q e
  | [], _, _, e, h => by
    have hq : Btw p q q := (Int.le_total p q).elim (fun h => .inl ⟨h, Int.le_refl _⟩) (fun h => .inr ⟨Int.le_refl _, h⟩)
    have hp : Btw p q p := (Int.le_total p q).elim (fun h => .inl ⟨Int.le_refl _, h⟩) (fun h => .inr ⟨h, Int.le_refl _⟩)
    rcases List.mem_cons.1 h with rfl | h
    · exact hq
    · rw [List.mem_singleton.1 h]; exact hp
  | [x], hz, hf, e, h => by
    have ih := first_hull (u := []) hz.tail hf.tail
    rcases List.mem_cons.1 h with rfl | h
    · exact btw_mid (ih q (by simp)) (ih p (by simp)) (mid hz.1 hf.1)
    · exact ih e h
  | x :: y :: [], hz, hf, e, h => by
    have ih := first_hull (u := [y]) hz.tail hf.tail
    rcases List.mem_cons.1 h with rfl | h
    · exact btw_mid (ih y (by simp)) (ih q (by simp)) (mid hz.1 hf.1)
    · exact ih e h
  | x :: y :: z :: u, hz, hf, e, h => by
    have ih := first_hull (u := y :: z :: u) hz.tail hf.tail
    rcases List.mem_cons.1 h with rfl | h
    · exact btw_mid (ih y (by simp)) (ih z (by simp)) (mid hz.1 hf.1)
    · exact ih e h
/-- The ends. -/
structure EndsOf (ks E : List Int) : Prop where
  zig : Zig E
  sub : ∀ y ∈ E, y ∈ ks
  hull : ∀ y ∈ ks, Hull E y
  head : E.head? = ks.getLast?
  last : E.getLast? = ks.head?
theorem ends_of (ks : List Int) : EndsOf ks (endsR ks []) := by
  refine ⟨endsR_zig ks trivial, fun y h => ?_, fun y h => endsR_hull ks (.inl h), ?_, ?_⟩
  · rcases endsR_mem ks h with h | h
    · exact h
    · cases h
  · rcases List.eq_nil_or_concat ks with rfl | ⟨ys, x, rfl⟩
    · rfl
    · rw [List.concat_eq_append, endsR_append]
      obtain ⟨t, ht⟩ := endR_head x (endsR ys [])
      show (endR x (endsR ys [])).head? = _
      rw [ht]; simp
  · cases ks with
    | nil => rfl
    | cons k ks => exact endsR_last ks rfl
theorem cyc_all (ks : List Int) : (∀ c ∈ cycR ks, c.lo < c.hi ∧ c.lo ∈ ks ∧ c.hi ∈ ks) ∧ halves (cycR ks) = (endsR ks []).length - 1 ∧ (cycR ks ≠ [] → ∃ c ∈ cycR ks, ∀ e ∈ ks, c.lo ≤ e ∧ e ≤ c.hi) := by
  have hE := ends_of ks
  obtain ⟨h, hf⟩ := run_inv _ hE.zig
  unfold cycR
  generalize hs : runR (endsR ks []).reverse = s at *
  generalize hEE : endsR ks [] = E at *
  have hlen := h.cnt
  have hdir := h.dir
  refine ⟨fun c hc => ?_, ?_, fun hne => ?_⟩
  · rcases List.mem_append.1 hc with hc | hc
    · obtain ⟨h1, h2, h3⟩ := h.cyc c hc
      exact ⟨h1, hE.sub _ h2, hE.sub _ h3⟩
    · obtain ⟨u, v, a, b, h1, rfl⟩ := tail_mem hc
      have h2 : s.1 = v.reverse ++ b :: a :: u.reverse := by
        rw [← List.reverse_reverse s.1, h1]; simp
      have hz := h.zig
      rw [h2] at hz
      have hn := (Zig.drop _ hz).ne
      exact icOf_lt _ (fun h => hn h.symm) (hE.sub _ (h.mem _ (by rw [h2]; simp))) (hE.sub _ (h.mem _ (by rw [h2]; simp)))
  · rw [halves_append, tail_halves, List.length_reverse]
    have : 1 ≤ s.1.length ∨ E = [] := by
      match s.1, E, hdir with
      | [], [], _ => exact .inr rfl
      | _ :: _, _, _ => exact .inl (by simp)
    rcases this with h' | rfl
    · omega
    · have h0 : halves s.2 + s.1.length = 0 := hlen
      show halves s.2 + (s.1.length - 1) = 0 - 1
      omega
  · have h2 : 2 ≤ s.1.length := by
      match hl : s.1, E, hdir with
      | [], [], _ =>
        exfalso
        apply hne
        simp [hl] at hlen
        have : s.2 = [] := by
          cases h' : s.2 with
          | nil => rfl
          | cons c cs => rw [h'] at hlen; unfold halves at hlen; split at hlen <;> omega
        simp [hl, this, tailF]
      | [a], [b], _ =>
        exfalso
        apply hne
        simp [hl] at hlen
        have : s.2 = [] := by
          cases h' : s.2 with
          | nil => rfl
          | cons c cs => rw [h'] at hlen; unfold halves at hlen; split at hlen <;> omega
        simp [hl, this, tailF]
      | _ :: _ :: _, _, _ => simp
    obtain ⟨u, q, p, hu⟩ : ∃ u q p, s.1 = u ++ [q, p] := by
      rcases List.eq_nil_or_concat s.1 with h' | ⟨t, p, h'⟩
      · rw [h'] at h2; simp at h2
      · rcases List.eq_nil_or_concat t with rfl | ⟨u, q, rfl⟩
        · rw [h'] at h2; simp at h2
        · exact ⟨u, q, p, by rw [h']; simp⟩
    have hz := h.zig
    rw [hu] at hz hf
    have hh := first_hull hz hf
    refine ⟨icOf p q false, List.mem_append.2 (.inr ?_), fun e he => ?_⟩
    · rw [hu, List.reverse_append]
      exact List.mem_cons_self ..
    · have he2 : Hull s.1 e := Hull.trans (fun y hy => h.hull y hy) (hE.hull e he)
      obtain ⟨a, ha, b, hb, h3, h4⟩ := he2
      rw [hu] at ha hb
      have i1 := hh a ha
      have i2 := hh b hb
      unfold icOf
      unfold Btw at i1 i2
      clear hh ha hb hlen hdir
      split
      · show q ≤ e ∧ e ≤ p; omega
      · show p ≤ e ∧ e ≤ q; omega
/-! The other sign. -/
def ng (c : IC) : IC := ⟨-c.hi, -c.lo, c.wh⟩
def nl (l : List Int) : List Int := l.map (fun x => -x)
theorem icOf_ng (a b : Int) (wh : Bool) : icOf (-a) (-b) wh = ng (icOf a b wh) := by
  unfold icOf
  by_cases h : b < a
  · rw [if_neg (by omega), if_pos h]; rfl
  · by_cases h' : a < b
    · rw [if_pos (by omega), if_neg h]; rfl
    · obtain rfl : a = b := by omega
      rw [if_neg h, if_neg (by omega)]; rfl
theorem ab_ng (a b : Int) : ab (-a) (-b) = ab a b := by unfold ab; omega
theorem endR_ng (x : Int) : ∀ z : List Int, endR (-x) (nl z) = nl (endR x z)
  | [] => rfl
  | [a] => by
    show endR (-x) [-a] = _
    rw [endR_one, endR_one]
    by_cases h : x = a
    · rw [if_pos h, if_pos (by omega)]; rfl
    · rw [if_neg h, if_neg (by omega)]; rfl
  | a :: b :: r => by
    show endR (-x) (-a :: -b :: nl r) = _
    rw [endR_two, endR_two]
    by_cases h : x = a
    · rw [if_pos h, if_pos (by omega)]; rfl
    · rw [if_neg h, if_neg (by omega)]
      by_cases h2 : (b < a ∧ a < x) ∨ (a < b ∧ x < a)
      · rw [if_pos h2, if_pos (by omega)]; rfl
      · rw [if_neg h2, if_neg (by omega)]; rfl
theorem endsR_ng : ∀ xs z : List Int, endsR (nl xs) (nl z) = nl (endsR xs z)
  | [], _ => rfl
  | x :: xs, z => by
    show endsR (nl xs) (endR (-x) (nl z)) = _
    rw [endR_ng, endsR_ng xs]; rfl
def ngS (s : RS) : RS := (nl s.1, s.2.map ng)
theorem cstR_ng (s : RS) : cstR (ngS s) = ngS (cstR s) := by
  obtain ⟨l, o⟩ := s
  match l with
  | [] => rfl
  | [_] => rfl
  | [_, _] => rfl
  | x :: y :: z :: r =>
    show (if ab (-z) (-y) ≤ ab (-y) (-x) then ((if nl r = [] then [-x, -y] else -x :: nl r), o.map ng ++ [icOf (-z) (-y) (decide (nl r ≠ []))]) else (nl (x :: y :: z :: r), o.map ng)) = ngS (if ab z y ≤ ab y x then ((if r = [] then [x, y] else x :: r), o ++ [icOf z y (decide (r ≠ []))]) else (x :: y :: z :: r, o))
    rw [ab_ng, ab_ng, icOf_ng]
    by_cases h : ab z y ≤ ab y x
    · rw [if_pos h, if_pos h]
      cases r with
      | nil => simp [ngS, nl]
      | cons w t => simp [ngS, nl]
    · rw [if_neg h, if_neg h]; rfl
theorem iterR_ng (s : RS) : ∀ k, iterR k (ngS s) = ngS (iterR k s)
  | 0 => rfl
  | k + 1 => by
    show cstR (iterR k (ngS s)) = _
    rw [iterR_ng s k, cstR_ng]; rfl
theorem redR_ng (s : RS) : redR (ngS s) = ngS (redR s) := by
  unfold redR
  rw [iterR_ng, show (ngS s).1.length = s.1.length by simp [ngS, nl]]
theorem run_ng (es : List Int) : runR (nl es) = ngS (runR es) := by
  unfold runR nl
  rw [List.foldl_map]
  suffices ∀ (es : List Int) (s : RS), es.foldl (fun s x => redR (pushR s (-x))) (ngS s) = ngS (es.foldl (fun s x => redR (pushR s x)) s) from this es ([], [])
  intro es
  induction es with
  | nil => intro s; rfl
  | cons x es ih =>
    intro s
    rw [List.foldl_cons, List.foldl_cons, ← ih, ← redR_ng]
    rfl
theorem tail_ng : ∀ f : List Int, tailF (nl f) = (tailF f).map ng
  | [] => rfl
  | [_] => rfl
  | a :: b :: r => by
    show icOf (-a) (-b) false :: tailF (nl (b :: r)) = ng (icOf a b false) :: (tailF (b :: r)).map ng
    rw [icOf_ng, tail_ng]
theorem cyc_ng (ks : List Int) : cycR (nl ks) = (cycR ks).map ng := by
  unfold cycR
  have h1 : endsR (nl ks) [] = nl (endsR ks []) := endsR_ng ks []
  have h2 : (nl (endsR ks [])).reverse = nl (endsR ks []).reverse := by unfold nl; simp
  rw [h1, h2, run_ng]
  unfold ngS
  rw [show (nl (runR (endsR ks []).reverse).1).reverse = nl (runR (endsR ks []).reverse).1.reverse by unfold nl; simp, tail_ng, List.map_append]
end Go.Proofs.Ytmpmnhnobgidoaa
