/- Ends and cycles on whole numbers: what holds of them. -/
import Derived.Test.YtmpmnhnobgidoaaVK
namespace Go.Proofs.Ytmpmnhnobgidoaa
set_option linter.unusedSimpArgs false
set_option linter.unusedVariables false
open Go.RowKit Go.Fl Go.Lib

/-- Up and down by turns, the last one first. -/
def Zig : List Int → Prop
  | x :: y :: z :: r => ((x < y ∧ z < y) ∨ (y < x ∧ y < z)) ∧ Zig (y :: z :: r)
  | [x, y] => x ≠ y
  | _ => True
def Fall : List Int → Prop
  | x :: y :: z :: r => ab x y < ab y z ∧ Fall (y :: z :: r)
  | _ => True
theorem Zig.tail : ∀ {x : Int} {s : List Int}, Zig (x :: s) → Zig s
  | _, [], _ => trivial
  | _, [_], _ => trivial
  | _, _ :: _ :: _, h => h.2
theorem Fall.tail : ∀ {x : Int} {s : List Int}, Fall (x :: s) → Fall s
  | _, [], _ => trivial
  | _, [_], _ => trivial
  | _, _ :: _ :: _, h => h.2
theorem Zig.ne : ∀ {x y : Int} {s : List Int}, Zig (x :: y :: s) → x ≠ y
  | _, _, [], h => h
  | _, _, _ :: _, h => by have := h.1; omega
theorem Zig.drop : ∀ (u : List Int) {s : List Int}, Zig (u ++ s) → Zig s
  | [], _, h => h
  | _ :: u, _, h => Zig.drop u h.tail
def Hull (z : List Int) (e : Int) : Prop := ∃ a ∈ z, ∃ b ∈ z, a ≤ e ∧ e ≤ b
theorem Hull.mem {z : List Int} {e : Int} (h : e ∈ z) : Hull z e := ⟨e, h, e, h, Int.le_refl _, Int.le_refl _⟩
theorem Hull.trans {z z' : List Int} {e : Int} (h : ∀ y ∈ z, Hull z' y) (he : Hull z e) : Hull z' e := by
  obtain ⟨a, ha, b, hb, h1, h2⟩ := he
  obtain ⟨a1, ha1, -, -, h3, -⟩ := h a ha
  obtain ⟨-, -, b1, hb1, -, h4⟩ := h b hb
  exact ⟨a1, ha1, b1, hb1, by omega, by omega⟩
/-! Ends. -/
theorem endR_one (x a : Int) : endR x [a] = if x = a then [a] else [x, a] := rfl
theorem endR_zig {x : Int} : ∀ {z : List Int}, Zig z → Zig (endR x z)
  | [], _ => trivial
  | [a], _ => by
    rw [endR_one]
    split
    · trivial
    · assumption
  | a :: b :: r, h => by
    have hn := h.ne
    rw [endR_two]
    split
    · exact h
    · split
      · cases r with
        | nil => show x ≠ b; omega
        | cons c r => exact ⟨by have := h.1; omega, h.2⟩
      · exact ⟨by omega, h⟩
theorem endR_head (x : Int) : ∀ z : List Int, ∃ t, endR x z = x :: t
  | [] => ⟨[], rfl⟩
  | [a] => by
    rw [endR_one]
    split
    · exact ⟨[], by simp [*]⟩
    · exact ⟨[a], rfl⟩
  | a :: b :: r => by
    rw [endR_two]
    split
    · exact ⟨b :: r, by simp [*]⟩
    · split
      · exact ⟨_, rfl⟩
      · exact ⟨_, rfl⟩
theorem endR_mem {x y : Int} : ∀ {z : List Int}, y ∈ endR x z → y = x ∨ y ∈ z
  | [], h => .inl (List.mem_singleton.1 h)
  | [a], h => by
    rw [endR_one] at h
    split at h
    · exact .inr h
    · exact List.mem_cons.1 h
  | a :: b :: r, h => by
    rw [endR_two] at h
    split at h
    · exact .inr h
    · split at h
      · rcases List.mem_cons.1 h with h | h
        · exact .inl h
        · exact .inr (List.mem_cons_of_mem _ h)
      · exact List.mem_cons.1 h
theorem endR_hull {x y : Int} : ∀ {z : List Int}, y ∈ z → Hull (endR x z) y
  | [a], h => by
    rw [endR_one]
    split
    · exact .mem h
    · exact .mem (List.mem_cons_of_mem _ h)
  | a :: b :: r, h => by
    rw [endR_two]
    split
    · exact .mem h
    · split
      · rename_i ho
        rcases List.mem_cons.1 h with rfl | h
        · rcases ho with ho | ho
          · exact ⟨b, by simp, x, by simp, by omega, by omega⟩
          · exact ⟨x, by simp, b, by simp, by omega, by omega⟩
        · exact .mem (List.mem_cons_of_mem _ h)
      · exact .mem (List.mem_cons_of_mem _ h)
theorem endR_last {x a : Int} : ∀ {z : List Int}, z.getLast? = some a → (endR x z).getLast? = some a
  | [b], h => by
    rw [endR_one]
    split
    · exact h
    · simpa using h
  | b :: c :: r, h => by
    rw [endR_two]
    split
    · exact h
    · split
      · simpa using h
      · simpa using h
theorem endsR_zig : ∀ (xs : List Int) {z : List Int}, Zig z → Zig (endsR xs z)
  | [], _, h => h
  | _ :: xs, _, h => endsR_zig xs (endR_zig h)
theorem endsR_mem {y : Int} : ∀ (xs : List Int) {z : List Int}, y ∈ endsR xs z → y ∈ xs ∨ y ∈ z
  | [], _, h => .inr h
  | x :: xs, z, h => by
    rcases endsR_mem xs h with h | h
    · exact .inl (List.mem_cons_of_mem _ h)
    · rcases endR_mem h with rfl | h
      · exact .inl (List.mem_cons_self ..)
      · exact .inr h
theorem endsR_hull {e : Int} : ∀ (xs : List Int) {z : List Int}, e ∈ xs ∨ Hull z e → Hull (endsR xs z) e
  | [], _, h => by
    rcases h with h | h
    · cases h
    · exact h
  | x :: xs, z, h => by
    refine endsR_hull xs ?_
    rcases h with h | h
    · rcases List.mem_cons.1 h with rfl | h
      · obtain ⟨t, ht⟩ := endR_head e z
        exact .inr (.mem (by rw [ht]; exact List.mem_cons_self ..))
      · exact .inl h
    · exact .inr (Hull.trans (fun y hy => endR_hull hy) h)
theorem endsR_last {a : Int} : ∀ (xs : List Int) {z : List Int}, z.getLast? = some a → (endsR xs z).getLast? = some a
  | [], _, h => h
  | _ :: xs, _, h => endsR_last xs (endR_last h)
theorem endsR_append : ∀ (xs ys : List Int) (z : List Int), endsR (xs ++ ys) z = endsR ys (endsR xs z)
  | [], _, _ => rfl
  | x :: xs, ys, z => endsR_append xs ys (endR x z)
/-! What is left and what is found. -/
def halves : List IC → Nat
  | [] => 0
  | c :: cs => (if c.wh then 2 else 1) + halves cs
theorem halves_append : ∀ a b : List IC, halves (a ++ b) = halves a + halves b
  | [], b => by simp [halves]
  | c :: a, b => by simp [halves, halves_append a b]; omega
def Dir : List Int → List Int → Prop
  | [], [] => True
  | [a], [b] => a = b
  | a :: a' :: _, b :: b' :: _ => a = b ∧ ((a < a' ∧ b < b') ∨ (a' < a ∧ b' < b))
  | _, _ => False
/-- While what is left is looked at. -/
structure RInv (es : List Int) (s : RS) : Prop where
  zig : Zig s.1
  fall : Fall s.1.tail
  mem : ∀ y ∈ s.1, y ∈ es
  hull : ∀ e ∈ es, Hull s.1 e
  cyc : ∀ c ∈ s.2, c.lo < c.hi ∧ c.lo ∈ es ∧ c.hi ∈ es
  cnt : halves s.2 + s.1.length = es.length
  dir : Dir s.1 es
theorem icOf_lt {a b : Int} (wh : Bool) (h : a ≠ b) {es : List Int} (ha : a ∈ es) (hb : b ∈ es) : (icOf a b wh).lo < (icOf a b wh).hi ∧ (icOf a b wh).lo ∈ es ∧ (icOf a b wh).hi ∈ es := by
  unfold icOf
  split
  · exact ⟨by assumption, hb, ha⟩
  · exact ⟨by show a < b; omega, ha, hb⟩
theorem icOf_wh (a b : Int) (wh : Bool) : (icOf a b wh).wh = wh := by unfold icOf; split <;> rfl
theorem RInv.push {es : List Int} {s : RS} (h : RInv es s) (hf : Fall s.1) {x : Int} (hx : Zig (x :: es)) : RInv (x :: es) (pushR s x) := by
  obtain ⟨l, o⟩ := s
  refine ⟨?_, hf, ?_, ?_, ?_, ?_, ?_⟩
  · have hd := h.dir
    have hz := h.zig
    show Zig (x :: l)
    match l, es, hd, hz, hx with
    | [], [], _, _, _ => trivial
    | [a], [b], hd, _, hx => subst hd; exact hx
    | a :: a' :: r, b :: b' :: t, hd, hz, hx =>
      obtain ⟨rfl, hd⟩ := hd
      exact ⟨by have := hx.1; omega, hz⟩
  · intro y hy
    rcases List.mem_cons.1 hy with rfl | hy
    · exact List.mem_cons_self ..
    · exact List.mem_cons_of_mem _ (h.mem y hy)
  · intro e he
    rcases List.mem_cons.1 he with rfl | he
    · exact .mem (List.mem_cons_self ..)
    · obtain ⟨a, ha, b, hb, h1⟩ := h.hull e he
      exact ⟨a, List.mem_cons_of_mem _ ha, b, List.mem_cons_of_mem _ hb, h1⟩
  · intro c hc
    obtain ⟨h1, h2, h3⟩ := h.cyc c hc
    exact ⟨h1, List.mem_cons_of_mem _ h2, List.mem_cons_of_mem _ h3⟩
  · have := h.cnt
    show halves o + (l.length + 1) = es.length + 1
    simp at this; omega
  · have hd := h.dir
    show Dir (x :: l) (x :: es)
    match l, es, hd, hx with
    | [], [], _, _ => rfl
    | [a], [b], hd, hx => subst hd; exact ⟨rfl, by have := hx.ne; omega⟩
    | a :: a' :: r, b :: b' :: t, hd, hx =>
      obtain ⟨rfl, hd⟩ := hd
      exact ⟨rfl, by have := hx.ne; omega⟩
theorem RInv.step {es x y z r o} (h : RInv es (x :: y :: z :: r, o)) (hd : ab z y ≤ ab y x) : RInv es ((if r = [] then [x, y] else x :: r), o ++ [icOf z y (decide (r ≠ []))]) := by
  have hz := h.zig
  have hf := h.fall
  have h1 : (x < y ∧ z < y) ∨ (y < x ∧ y < z) := hz.1
  have hzy : z ≠ y := by omega
  have hcyc : ∀ c ∈ o ++ [icOf z y (decide (r ≠ []))], c.lo < c.hi ∧ c.lo ∈ es ∧ c.hi ∈ es := by
    intro c hc
    rcases List.mem_append.1 hc with hc | hc
    · exact h.cyc c hc
    · rw [List.mem_singleton.1 hc]
      exact icOf_lt _ hzy (h.mem z (by simp)) (h.mem y (by simp))
  have hcnt := h.cnt
  have hh : halves (o ++ [icOf z y (decide (r ≠ []))]) = halves o + (if r = [] then 1 else 2) := by
    rw [halves_append]
    unfold halves
    rw [icOf_wh]
    by_cases hr : r = [] <;> simp [hr, halves]
  unfold ab at hd
  cases r with
  | nil =>
    rw [if_pos rfl] at hh ⊢
    refine ⟨hz.ne, trivial, fun u hu => h.mem u ?_, fun e he => Hull.trans (fun u hu => ?_) (h.hull e he), hcyc, ?_, ?_⟩
    · simp at hu ⊢; omega
    · simp at hu
      rcases hu with rfl | rfl | rfl
      · exact .mem (by simp)
      · exact .mem (by simp)
      · rcases h1 with h1 | h1
        · exact ⟨x, by simp, y, by simp, by omega, by omega⟩
        · exact ⟨y, by simp, x, by simp, by omega, by omega⟩
    · show halves (o ++ [icOf z y (decide (([] : List Int) ≠ []))]) + 2 = es.length
      rw [hh]
      simp at hcnt; omega
    · have := h.dir
      match es, this with
      | b :: b' :: t, this => exact this
  | cons w t =>
    rw [if_neg (by simp)] at hh ⊢
    have h2 : (y < z ∧ w < z) ∨ (z < y ∧ z < w) := hz.2.1
    have h3 : ab y z < ab z w := hf.1
    unfold ab at h3
    refine ⟨?_, hf.tail.tail, fun u hu => h.mem u ?_, fun e he => Hull.trans (fun u hu => ?_) (h.hull e he), hcyc, ?_, ?_⟩
    · show Zig (x :: w :: t)
      cases t with
      | nil => show x ≠ w; omega
      | cons v t => exact ⟨by have : (z < w ∧ v < w) ∨ (w < z ∧ w < v) := hz.2.2.1; omega, hz.2.2.2⟩
    · rcases List.mem_cons.1 hu with rfl | hu
      · simp
      · exact List.mem_cons_of_mem _ (List.mem_cons_of_mem _ (List.mem_cons_of_mem _ hu))
    · rcases List.mem_cons.1 hu with rfl | hu
      · exact .mem (by simp)
      rcases List.mem_cons.1 hu with rfl | hu
      · rcases h1 with h1 | h1
        · exact ⟨x, by simp, w, by simp, by omega, by omega⟩
        · exact ⟨w, by simp, x, by simp, by omega, by omega⟩
      rcases List.mem_cons.1 hu with rfl | hu
      · rcases h1 with h1 | h1
        · exact ⟨x, by simp, w, by simp, by omega, by omega⟩
        · exact ⟨w, by simp, x, by simp, by omega, by omega⟩
      · exact .mem (List.mem_cons_of_mem _ hu)
    · show halves (o ++ [icOf z y (decide ((w :: t) ≠ []))]) + (t.length + 2) = es.length
      rw [hh]
      simp at hcnt; omega
    · have := h.dir
      match es, this with
      | b :: b' :: t', this =>
        obtain ⟨rfl, hd'⟩ := this
        exact ⟨rfl, by omega⟩
def dueR : List Int → Bool
  | x :: y :: z :: _ => decide (ab z y ≤ ab y x)
  | _ => false
theorem RInv.cst {es : List Int} {s : RS} (h : RInv es s) : RInv es (cstR s) := by
  obtain ⟨l, o⟩ := s
  match l, h with
  | [], h => exact h
  | [_], h => exact h
  | [_, _], h => exact h
  | x :: y :: z :: r, h =>
    show RInv es (if ab z y ≤ ab y x then ((if r = [] then [x, y] else x :: r), o ++ [icOf z y (decide (r ≠ []))]) else (x :: y :: z :: r, o))
    split
    · exact h.step (by assumption)
    · exact h
theorem not_due {es : List Int} {s : RS} (h : RInv es s) (hd : dueR s.1 = false) : cstR s = s ∧ Fall s.1 := by
  obtain ⟨l, o⟩ := s
  match l, h, hd with
  | [], h, _ => exact ⟨rfl, trivial⟩
  | [_], h, _ => exact ⟨rfl, trivial⟩
  | [_, _], h, _ => exact ⟨rfl, trivial⟩
  | x :: y :: z :: r, h, hd =>
    have hd' : ¬ ab z y ≤ ab y x := by
      intro h'
      have : decide (ab z y ≤ ab y x) = false := hd
      simp at this; omega
    refine ⟨?_, ?_, h.fall⟩
    · show (if ab z y ≤ ab y x then _ else _) = _
      rw [if_neg hd']
    · unfold ab at hd' ⊢; omega
theorem due_less {s : RS} (hd : dueR s.1 = true) : (cstR s).1.length < s.1.length := by
  obtain ⟨l, o⟩ := s
  match l, hd with
  | x :: y :: z :: r, hd =>
    have hd' : ab z y ≤ ab y x := by
      have : decide (ab z y ≤ ab y x) = true := hd
      simpa using this
    show (if ab z y ≤ ab y x then ((if r = [] then [x, y] else x :: r), o ++ [icOf z y (decide (r ≠ []))]) else (x :: y :: z :: r, o)).1.length < _
    rw [if_pos hd']
    show (if r = [] then [x, y] else x :: r).length < r.length + 3
    split <;> simp <;> omega
theorem iterR_in (s : RS) : ∀ k, iterR (k + 1) s = iterR k (cstR s)
  | 0 => rfl
  | k + 1 => by
    show cstR (iterR (k + 1) s) = cstR (iterR k (cstR s))
    rw [iterR_in s k]
theorem iterR_same {s : RS} (h : cstR s = s) : ∀ k, iterR k s = s
  | 0 => rfl
  | k + 1 => by rw [iterR_in, h, iterR_same h k]
theorem RInv.iter {es : List Int} : ∀ (k : Nat) {s : RS}, RInv es s → s.1.length ≤ k + 2 → RInv es (iterR k s) ∧ Fall (iterR k s).1
  | 0, s, h, hl => by
    refine ⟨h, ?_⟩
    obtain ⟨l, o⟩ := s
    match l, hl with
    | [], _ => trivial
    | [_], _ => trivial
    | [_, _], _ => trivial
    | _ :: _ :: _ :: _, hl => exfalso; simp at hl
  | k + 1, s, h, hl => by
    cases hd : dueR s.1
    · obtain ⟨h1, h2⟩ := not_due h hd
      rw [iterR_same h1]; exact ⟨h, h2⟩
    · rw [iterR_in]
      exact RInv.iter k h.cst (by have := due_less hd; omega)
theorem run_inv : ∀ es : List Int, Zig es → RInv es (runR es.reverse) ∧ Fall (runR es.reverse).1
  | [], _ => ⟨⟨trivial, trivial, fun _ h => (by cases h), fun _ h => (by cases h), fun _ h => (by cases h), rfl, trivial⟩, trivial⟩
  | x :: es, hz => by
    obtain ⟨h, hf⟩ := run_inv es hz.tail
    have e : runR (x :: es).reverse = redR (pushR (runR es.reverse) x) := by
      unfold runR
      rw [List.reverse_cons, List.foldl_append]
      rfl
    rw [e]
    exact (h.push hf hz).iter _ (by omega)
end Go.Proofs.Ytmpmnhnobgidoaa
