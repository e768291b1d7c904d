/- The calls of the statements, in one form. -/
import Derived.Test.YtfdebdbmdbmbbaaDoorLawB
set_option linter.unusedSimpArgs false
set_option linter.unusedVariables false
namespace Go.Proofs.YtfdebdbmdbmbbaaDoor
open Go.RowKit

/-- A slice that reads as xs. -/
structure Row (w : World) (A : Option Addr) (n c : Nat) (xs : List Pfx) : Prop where
  len : n = xs.length
  sl : SlP w w.heap.size A xs
  nil : A = none → c = 0
theorem Row.below {w w' : World} {A : Option Addr} {n c : Nat} {xs : List Pfx} (h : Row w A n c xs) (hb : Below w.heap.size w w') : Row w' A n c xs := ⟨h.len, (h.sl.below hb (Nat.le_refl _)).more hb.size, h.nil⟩

section
variable {xs ys : List Pfx} {A B : Option Addr} {n m c d : Nat} {w : World} (hgl : Glob w)
include hgl
theorem formK (h : Row w A n c xs) (hc : n ≤ c) :
    Calls Tryd.prog 6 #[.slice A n c] w fun e w' => ∃ A' m c' r, e = .returned (.tuple #[.slice A' m c', .bool r]) ∧ Below w.heap.size w w' ∧ (r = true → (∀ p ∈ xs.take 12, okP p = true) ∧ Row w' A' m c' (oneL (xs.take 12)) ∧ m ≤ c') := by
  cases hx : (xs.take 12).any fun p => !okP p
  · refine (formOk_any xs A n c w h.len hc hgl h.sl h.nil hx).mono ?_
    rintro e w' ⟨A', m, c', rfl, h1, h2, h3, h4, h5⟩
    refine ⟨A', m, c', true, rfl, h3, fun _ => ⟨fun p hp => ?_, ⟨h1, h2, h4⟩, h5⟩⟩
    have := List.any_eq_false.1 hx p hp
    simpa using this
  · refine (formBad_any xs A n c w h.len hc hgl h.sl hx).mono ?_
    rintro e w' ⟨rfl, h3⟩
    exact ⟨none, 0, 0, false, rfl, h3, fun h => by cases h⟩
theorem checkK (h : Row w A n c xs) (hx : Canon xs) (hl : n ≤ 300) : Calls Tryd.prog 9 #[.slice A n c] w fun e w' => e = .returned (.int .i64 0) ∧ Below w.heap.size w w' :=
  checkC_any xs A c n w h.len hgl hx hl h.sl h.nil
omit hgl in
theorem equalK (h : Row w A n c xs) (k : Row w B m d ys) (hl : n ≤ 300) (hl2 : m ≤ 300) (r : Bool) (hr : decide (xs = ys) = r) :
    Calls Tryd.prog 11 #[.slice A n c, .slice B m d] w fun e w' => e = .returned (.bool r) ∧ Below w.heap.size w w' := by
  obtain ⟨h1, h2, _⟩ := h
  obtain ⟨k1, k2, _⟩ := k
  subst h1; subst k1; subst hr
  exact equal_any xs ys A B c d w h2 k2 (by omega) (by omega)
variable (h : Row w A n c xs) (k : Row w B m d ys) (hx : Canon xs) (hy : Canon ys) (hl : n ≤ 300) (hl2 : m ≤ 300)
include h k hx hy hl hl2
theorem meetK (zs : List Pfx) (hz : meetR xs ys = zs) (hr : zs.length ≤ 300) : Calls Tryd.prog 7 #[.slice A n c, .slice B m d] w fun e w' => ∃ A' m' c', e = .returned (.tuple #[.slice A' m' c', .int .i64 0]) ∧ Row w' A' m' c' zs ∧ Below w.heap.size w w' := by
  subst hz
  refine (meet_any h.len k.len hgl hx hy hl hl2 h.sl k.sl h.nil k.nil).mono ?_
  rintro e w' (⟨h1, _⟩ | ⟨_, A', m', c', h2, h3, h4, h5, h6⟩)
  · exact absurd h1 (by show ¬ 300 < (meetR xs ys).length; omega)
  · exact ⟨A', m', c', h2, ⟨h3, h4, h6⟩, h5⟩
theorem unionK (zs : List Pfx) (hz : unionR xs ys = zs) (hr : zs.length ≤ 300) : Calls Tryd.prog 10 #[.slice A n c, .slice B m d] w fun e w' => ∃ A' m' c', e = .returned (.tuple #[.slice A' m' c', .int .i64 0]) ∧ Row w' A' m' c' zs ∧ Below w.heap.size w w' := by
  subst hz
  refine (union_any h.len k.len hgl hx hy hl hl2 h.sl k.sl h.nil k.nil).mono ?_
  rintro e w' (⟨h1, _⟩ | ⟨_, A', m', c', h2, h3, h4, h5, h6⟩)
  · exact absurd h1 (by show ¬ 300 < (unionR xs ys).length; omega)
  · exact ⟨A', m', c', h2, ⟨h3, h4, h6⟩, h5⟩
theorem minusK (hs : n * (1 + 129 * m) ≤ 500000) : Calls Tryd.prog 8 #[.slice A n c, .slice B m d] w fun e w' => (e = .returned (.tuple #[.slice none 0 0, .int .i64 6]) ∧ Below w.heap.size w w') ∨ ∃ A' m' c', e = .returned (.tuple #[.slice A' m' c', .int .i64 0]) ∧ Row w' A' m' c' (minusR xs ys) ∧ m' ≤ 300 ∧ Below w.heap.size w w' := by
  have hb := (minusL_ok hx.ok hy.ok).2.2
  rw [← h.len, ← k.len] at hb
  refine (minus_any h.len k.len hgl hx hy hl hl2 h.sl k.sl h.nil k.nil (by omega)).mono ?_
  rintro e w' (⟨_, h1, h2⟩ | ⟨h1, A', m', c', h2, h3, h4, h5, h6⟩)
  · exact .inl ⟨h1, h2⟩
  · exact .inr ⟨A', m', c', h2, ⟨h3, h4, h6⟩, by rw [h3]; exact h1, h5⟩
theorem withinK (hr : (meetR xs ys).length ≤ 300) (r : Bool) (hd : decide (meetR xs ys = xs) = r) : Calls Tryd.prog 12 #[.slice A n c, .slice B m d] w fun e w' => e = .returned (.tuple #[.bool r, .int .i64 0]) ∧ Below w.heap.size w w' := by
  subst hd
  exact within_any xs ys A B c d n m w h.len k.len hgl hx hy hl hl2 h.sl k.sl h.nil k.nil hr
end
end Go.Proofs.YtfdebdbmdbmbbaaDoor
