/- Words for slices whose elements are aggregates of k cells. -/
import Derived.Test.YtfdebdbmdbmbbaaDoorMem
import Derived.Laws.AppendOwnNone
set_option linter.unusedSimpArgs false
set_option linter.unusedVariables false
namespace Go.Proofs.YtfdebdbmdbmbbaaDoor
open Go.RowKit
section
variable {α : Type} {enc : α → List Value} {k : Nat}

/-- The slice at A reads as xs, below block B. -/
def SlR (enc : α → List Value) (k : Nat) (w : World) (B : Nat) (A : Option Addr) (xs : List α) : Prop :=
  xs = [] ∨ ∃ b o, A = some ⟨b, o, none⟩ ∧ b < B ∧ ∀ i x, xs[i]? = some x → rowAt w b (o + i * k) k = some (enc x)

theorem SlR.nil (w : World) (B : Nat) (A : Option Addr) : SlR enc k w B A [] := .inl rfl
theorem SlR.below {w w' : World} {B B' : Nat} {A : Option Addr} {xs : List α} (h : SlR enc k w B A xs) (hb : Below B' w w') (hB : B ≤ B') : SlR enc k w' B A xs := by
  rcases h with h | ⟨b, o, rfl, hlt, hr⟩
  · exact .inl h
  · exact .inr ⟨b, o, rfl, hlt, fun i x hx => (rowAt_below hb (by omega) _ _).trans (hr i x hx)⟩
theorem SlR.more {w : World} {B B' : Nat} {A : Option Addr} {xs : List α} (h : SlR enc k w B A xs) (hB : B ≤ B') : SlR enc k w B' A xs := by
  rcases h with h | ⟨b, o, rfl, hlt, hr⟩
  · exact .inl h
  · exact .inr ⟨b, o, rfl, by omega, hr⟩
theorem SlR.gw {w : World} {B : Nat} {A : Option Addr} {xs : List α} (h : SlR enc k w B A xs) (hB : B ≤ w.heap.size) (d : Nat) (os : Array Obj) : SlR enc k (gw w d os) B A xs := h.below (below_gw w d os) hB
theorem SlR.alloc {w : World} {B : Nat} {A : Option Addr} {xs : List α} (h : SlR enc k w B A xs) (hB : B ≤ w.heap.size) (o : Obj) : SlR enc k (w.alloc o) B A xs := h.below ((Below.refl _ _).alloc (Nat.le_refl _) o) hB
theorem SlR.drew {w : World} {B : Nat} {A : Option Addr} {xs : List α} (h : SlR enc k w B A xs) : SlR enc k w.drew B A xs := h
theorem SlR.drewN {w : World} {B : Nat} {A : Option Addr} {xs : List α} (h : SlR enc k w B A xs) (n : Nat) : SlR enc k (w.drewN n) B A xs := h
theorem SlR.get {w : World} {B : Nat} {A : Option Addr} {xs : List α} (h : SlR enc k w B A xs) {i : Nat} {x : α} (hx : xs[i]? = some x) : ∃ b o, A = some ⟨b, o, none⟩ ∧ b < B ∧ rowAt w b (o + i * k) k = some (enc x) := by
  rcases h with h | ⟨b, o, rfl, hlt, hr⟩
  · subst h; simp at hx
  · exact ⟨b, o, rfl, hlt, hr i x hx⟩
theorem SlR.take {w : World} {B : Nat} {A : Option Addr} {xs : List α} (h : SlR enc k w B A xs) (n : Nat) : SlR enc k w B A (xs.take n) := by
  rcases h with h | ⟨b, o, rfl, hlt, hr⟩
  · exact .inl (by simp [h])
  · refine .inr ⟨b, o, rfl, hlt, fun i x hx => hr i x ?_⟩
    rw [List.getElem?_take] at hx
    split at hx
    · exact hx
    · cases hx

/-- The cells of a row of xs. -/
def flat (enc : α → List Value) (xs : List α) : List Value := xs.flatMap enc
theorem flat_length (hk : ∀ x, (enc x).length = k) : ∀ xs : List α, (flat enc xs).length = xs.length * k
  | [] => by simp [flat]
  | x :: xs => by
    have := flat_length hk xs
    simp only [flat, List.flatMap_cons, List.length_append, List.length_cons] at *
    rw [hk, this, Nat.succ_mul, Nat.add_comm]
theorem flat_append (xs ys : List α) : flat enc (xs ++ ys) = flat enc xs ++ flat enc ys := by simp [flat]
theorem flat_get (hk : ∀ x, (enc x).length = k) : ∀ (xs : List α) (i : Nat) (x : α) (j : Nat), xs[i]? = some x → j < k → (flat enc xs)[i * k + j]? = (enc x)[j]?
  | [], i, x, j, hx, _ => by simp at hx
  | y :: xs, 0, x, j, hx, hj => by
    simp at hx; subst hx
    simp only [flat, List.flatMap_cons, Nat.zero_mul, Nat.zero_add]
    rw [List.getElem?_append_left (by rw [hk]; exact hj)]
  | y :: xs, i + 1, x, j, hx, hj => by
    have ih := flat_get hk xs i x j (by simpa using hx) hj
    simp only [flat, List.flatMap_cons] at ih ⊢
    rw [List.getElem?_append_right (by rw [hk, Nat.succ_mul]; omega), ← ih]
    congr 1
    rw [hk, Nat.succ_mul]; omega
theorem flat_one (h1 : ∀ x, ∀ v ∈ enc x, v.oneCell' = true) (xs : List α) : ∀ v ∈ flat enc xs, v.oneCell' = true := by
  intro v hv
  simp only [flat, List.mem_flatMap] at hv
  obtain ⟨x, _, hv⟩ := hv
  exact h1 x v hv

/-- A row of the call's own, as the library's append law says it, reads. -/
theorem SlR.of_own (hk : ∀ x, (enc x).length = k) (hpos : 0 < k) {w : World} {base : Nat} {e : TypeId} {A : Option Addr} {n c : Nat} {xs : List α} (hn : xs.length = n) (h : w.ownsRow base e k (.slice A n c) n (flat enc xs)) : SlR enc k w w.heap.size A xs := by
  cases xs with
  | nil => exact .inl rfl
  | cons x xs =>
    have hn0 : 0 < n := by rw [← hn]; simp
    obtain ⟨g, hA, hlt⟩ : ∃ g, A = some ⟨g, 0, none⟩ ∧ g < w.heap.size := by
      rcases h.2 with ⟨_, h0⟩ | ⟨g, cap, cur, hv, _, hh, _⟩
      · omega
      · exact ⟨g, by injection hv, (Array.getElem?_eq_some_iff.1 hh).1⟩
    subst hA
    have hc := h.cells (g := g) rfl
    refine .inr ⟨g, 0, rfl, hlt, fun i y hy => rowAt_of_cells (hk y) hpos fun j v hj => ?_⟩
    have hjk : j < k := by rw [← hk y]; exact (List.getElem?_eq_some_iff.1 hj).1
    have := hc (i * k + j) v (by rw [flat_get hk _ i y j hy hjk]; exact hj)
    have e : (⟨g, 0, none⟩ : Addr).add (i * k + j) = ⟨g, 0 + i * k + j, none⟩ := by
      unfold Addr.add
      split
      · simp_all
      · simp
    rw [e] at this
    exact this

theorem zeroValue_info {P : Program} {e : TypeId} {w : World} {v : Value} (h : (zeroValue e).run P w = .ok v w) {k by_ : Nat} (hi : (P.info? e).map (fun i => (i.size, i.bytes)) = some (k, by_)) : ∃ i, P.info? e = some i ∧ i.zero = some v ∧ i.size = k ∧ i.bytes = by_ := by
  cases hq : P.info? e with
  | none => rw [hq] at hi; cases hi
  | some i =>
    rw [hq] at hi
    simp only [Option.map_some, Option.some.injEq, Prod.mk.injEq] at hi
    refine ⟨i, rfl, ?_, hi.1, hi.2⟩
    cases hz : i.zero with
    | none => simp [zeroValue, typeInfo, hq, hz] at h
    | some u => simp [zeroValue, typeInfo, hq, hz] at h; rw [h]

theorem own_slice {w : World} {base : Nat} {e : TypeId} {size : Nat} {v : Value} {n : Nat} {xs : List Value} (h : w.ownsRow base e size v n xs) : ∃ A c, v = .slice A n c ∧ (A = none → c = 0) := by
  rcases h.2 with ⟨rfl, rfl⟩ | ⟨g, cap, cur, rfl, _⟩
  · exact ⟨none, 0, rfl, fun _ => rfl⟩
  · exact ⟨some ⟨g, 0, none⟩, cap, rfl, fun h => by cases h⟩

/-- append of a slice onto a row of the call's own. -/
theorem app_rows {P : Program} {w : World} (enc : α → List Value) (k : Nat) (hk : ∀ x, (enc x).length = k) (h1 : ∀ x, ∀ v ∈ enc x, v.oneCell' = true) {ops : Array Oper} {rest : List Oper} {o : Oper} {a : Act} {Q : Exit → Act → World → Prop} (hgd : o.guard = none) (s x : Operand) (t : TypeId)
    (ho : o.op = .call { callee := .builtin .append, args := #[s, x], argTypes := #[t, t] })
    (base : Nat) (e : TypeId) (by_ : Nat) (hi : (P.info? e).map (fun i => (i.size, i.bytes)) = some (k, by_)) {zl : List Value} (hz : (zeroValue e).run P w = .ok (.agg zl.toArray) w) (hzl : zl.length = k) (hpos : 0 < k) (ht : P.underlying t = some (.slice e)) (hby : by_ ≤ 1000)
    (xs ys : List α) (m1 m2 : Nat) (A0 : Option Addr) (c0 : Nat) (hs : a.eval s = .slice A0 m1 c0) (hm1 : m1 = xs.length) (hown : w.ownsRow base e k (.slice A0 m1 c0) m1 (flat enc xs))
    (B : Nat) (A : Option Addr) (c : Nat) (hx : a.eval x = .slice A m2 c) (hm2 : m2 = ys.length) (hr : SlR enc k w B A ys) (hA : A = none → c = 0) (hlen : m1 + m2 ≤ 1000000) (hbase : base ≤ w.heap.size)
    (h : ∀ A' c' w', w'.ownsRow base e k (.slice A' (m1 + m2) c') (m1 + m2) (flat enc (xs ++ ys)) → Below base w w' → (A' = none → c' = 0) → wpList P ops Q rest (a.put o.dst (.slice A' (m1 + m2) c')) w') : wpList P ops Q (o :: rest) a w := by
  subst hm1; subst hm2
  obtain ⟨i, hi0, hi1, hi2, hi3⟩ := zeroValue_info hz hi
  cases A with
  | none =>
    have hys : ys = [] := by
      rcases hr with h | ⟨b, o, h, _⟩
      · exact h
      · cases h
    subst hys
    have hc := hA rfl
    subst hc
    have hown' := hown
    obtain ⟨A1, c1, hv, hn1⟩ := own_slice hown
    have := h A0 c0 w (by simpa using hown) (Below.refl _ _) (by
      injection hv with e1 e2 e3
      subst e1; subst e3
      exact hn1)
    simp only [List.length_nil, Nat.add_zero] at this
    exact wpList_append_own_none hgd s x t ho base e i k ht hi0 _ _ _ hs hown hx this
  | some ad =>
    have hcells : ∀ j u, (flat enc ys)[j]? = some u → w.cell? (ad.add j) = some u := by
      intro j u hu
      rcases hr with h | ⟨b, o, hb, _, hr⟩
      · subst h; simp [flat] at hu
      · cases hb
        have hj : j < ys.length * k := by rw [← flat_length hk ys]; exact (List.getElem?_eq_some_iff.1 hu).1
        have hq : j / k < ys.length := Nat.div_lt_of_lt_mul (by rw [Nat.mul_comm]; exact hj)
        have hrow := hr (j / k) _ (List.getElem?_eq_getElem hq)
        have hcell := (rowAt_some hrow).2 (j % k) u (by
          rw [← flat_get hk ys (j / k) _ (j % k) (List.getElem?_eq_getElem hq) (Nat.mod_lt _ hpos), Nat.div_add_mod' j k]
          exact hu)
        rw [← hcell]
        congr 1
        unfold Addr.add
        have := Nat.div_add_mod' j k
        split
        · subst_vars; simp
        · simp; omega
    refine wpList_append_own w hgd s x t ho base e i (.agg zl.toArray) k by_ ht hi0 hi1 hi2 hi3 (by simp [Value.cells, hzl]) hpos _ _ _ hs hown ad ys.length c (flat enc ys) hx (flat_length hk ys) hcells (flat_one h1 ys) (by unfold maxLen; omega) (by
      have : (xs.length + ys.length) * by_ ≤ 1000000 * 1000 := Nat.mul_le_mul hlen hby
      omega) hbase ?_
    intro v' w' hown' hg _
    obtain ⟨A1, c1, rfl, hn1⟩ := own_slice hown'
    exact h A1 c1 w' (by rw [flat_append]; exact hown') ((Below.refl base w).grown hg hbase fun g hgo => (hown.lt g hgo).1) hn1
end
end Go.Proofs.YtfdebdbmdbmbbaaDoor
