/- What cover.Meet's iterator tells: plain. -/
import Derived.Test.YtfdebdbmdbmbbaaDoorOneL
set_option linter.unusedSimpArgs false
set_option linter.unusedVariables false
namespace Go.Proofs.YtfdebdbmdbmbbaaDoor

def meet1 (p q : Pfx) : Option Pfx := if holdsP p q = true then some q else if holdsP q p = true ∧ p ≠ q then some p else none
def rowL (p : Pfx) (b : List Pfx) : List Pfx := b.filterMap (meet1 p)
def meetL (a b : List Pfx) : List Pfx := a.flatMap fun p => rowL p b

theorem rowL_snoc (p : Pfx) (b : List Pfx) (j : Nat) (q : Pfx) (h : b[j]? = some q) : rowL p (b.take (j + 1)) = rowL p (b.take j) ++ (meet1 p q).toList := by
  rw [List.take_add_one, h, rowL, rowL, List.filterMap_append]
  cases hm : meet1 p q <;> simp [hm]
theorem meetL_snoc (a b : List Pfx) (k : Nat) (p : Pfx) (h : a[k]? = some p) : meetL (a.take (k + 1)) b = meetL (a.take k) b ++ rowL p b := by
  rw [List.take_add_one, h, meetL, meetL, List.flatMap_append]
  simp
theorem rowL_prefix (p : Pfx) (b : List Pfx) (j : Nat) : rowL p (b.take j) <+: rowL p b := ⟨rowL p (b.drop j), by rw [rowL, rowL, rowL, ← List.filterMap_append, List.take_append_drop]⟩
theorem meetL_prefix (a b : List Pfx) (k j : Nat) (p : Pfx) (h : a[k]? = some p) : meetL (a.take k) b ++ rowL p (b.take j) <+: meetL a b := by
  obtain ⟨t, ht⟩ := rowL_prefix p b j
  refine ⟨t ++ meetL (a.drop (k + 1)) b, ?_⟩
  have e := meetL_snoc a b k p h
  have e2 : meetL a b = meetL (a.take (k + 1)) b ++ meetL (a.drop (k + 1)) b := by
    rw [meetL, meetL, meetL, ← List.flatMap_append, List.take_append_drop]
  rw [e2, e, ← ht]
  simp
theorem meetL_len (a b : List Pfx) : (meetL a b).length ≤ a.length * b.length := by
  induction a with
  | nil => simp [meetL]
  | cons p a ih =>
    have h : (rowL p b).length ≤ b.length := List.length_filterMap_le _ _
    have e : (meetL (p :: a) b).length = (rowL p b).length + (meetL a b).length := by simp [meetL]
    rw [e, List.length_cons, Nat.succ_mul]
    omega
theorem cutB_idem (b : UInt8) (k : Int) : cutB (cutB b k) k = cutB b k := by
  unfold cutB
  by_cases h : k ≤ 0
  · simp [h]
  · by_cases h8 : k < 8
    · simp only [h, h8, if_true, if_false]
      have hb := b.toNat_lt
      have hm : b.toNat / 2 ^ (8 - k.toNat) * 2 ^ (8 - k.toNat) ≤ b.toNat := Nat.div_mul_le_self _ _
      have e : (UInt8.ofNat (b.toNat / 2 ^ (8 - k.toNat) * 2 ^ (8 - k.toNat))).toNat = b.toNat / 2 ^ (8 - k.toNat) * 2 ^ (8 - k.toNat) := by
        rw [UInt8.toNat_ofNat']
        exact Nat.mod_eq_of_lt (by omega)
      rw [e, Nat.mul_div_cancel _ (Nat.two_pow_pos _)]
    · simp [h, h8]
theorem cutL_idem (l : List UInt8) (n : Int) : cutL (cutL l n) n = cutL l n := by
  apply List.ext_getElem
  · simp [cutL]
  · intro i h1 h2
    have hi : i < 16 := by simpa [cutL] using h1
    simp only [cutL, List.getElem_map, List.getElem_range]
    rw [List.getD_eq_getElem?_getD, List.getElem?_map, List.getElem?_range hi]
    exact cutB_idem _ _
theorem holds_antisymm (p q : Pfx) (h : holdsP p q = true) (k : holdsP q p = true) : p = q := by
  unfold holdsP hasP at h k
  simp only [Bool.and_eq_true, decide_eq_true_eq] at h k
  obtain ⟨⟨_, h1⟩, ⟨⟨_, _⟩, h2⟩, h3⟩ := h
  obtain ⟨⟨_, k1⟩, _, k3⟩ := k
  have hb : p.bits = q.bits := by omega
  rw [hb] at h3
  have e : p.a.bs = q.a.bs := by
    rw [← h3, cutL_idem, h3] at k3
    exact k3
  obtain ⟨⟨v, bs, hl⟩, bits⟩ := p
  obtain ⟨⟨v', bs', hl'⟩, bits'⟩ := q
  simp only at *
  subst hb h2 e
  rfl
end Go.Proofs.YtfdebdbmdbmbbaaDoor
