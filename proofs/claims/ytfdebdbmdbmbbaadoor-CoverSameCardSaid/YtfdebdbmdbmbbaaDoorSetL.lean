/- What sets come to: meet, rest, union: plain. -/
import Derived.Test.YtfdebdbmdbmbbaaDoorCanon
import Derived.Test.YtfdebdbmdbmbbaaDoorMeetL
set_option linter.unusedSimpArgs false
set_option linter.unusedVariables false
namespace Go.Proofs.YtfdebdbmdbmbbaaDoor

theorem meet1_pt {p q : Pfx} (hp : okP p = true) (hq : okP q = true) (v : Int) (x : Nat) : (∃ r, meet1 p q = some r ∧ inP v x r) ↔ inP v x p ∧ inP v x q := by
  unfold meet1
  by_cases h : holdsP p q = true
  · rw [if_pos h]
    constructor
    · rintro ⟨r, h1, h2⟩
      cases h1
      exact ⟨in_of_holds hp hq h h2, h2⟩
    · rintro ⟨_, h2⟩; exact ⟨q, rfl, h2⟩
  · rw [if_neg h]
    by_cases h2 : holdsP q p = true
    · have hne : p ≠ q := by rintro rfl; exact h h2
      rw [if_pos ⟨h2, hne⟩]
      constructor
      · rintro ⟨r, h3, h4⟩
        cases h3
        exact ⟨h4, in_of_holds hq hp h2 h4⟩
      · rintro ⟨h3, _⟩; exact ⟨p, rfl, h3⟩
    · rw [if_neg (by rintro ⟨h3, _⟩; exact h2 h3)]
      constructor
      · rintro ⟨r, h3, _⟩; cases h3
      · rintro ⟨h3, h4⟩
        rcases Nat.le_total (lP p) (lP q) with hl | hl
        · exact (h (holds_of_in hp hq h3 h4 hl)).elim
        · exact (h2 (holds_of_in hq hp h4 h3 hl)).elim
theorem meet1_ok {p q r : Pfx} (hp : okP p = true) (hq : okP q = true) (h : meet1 p q = some r) : okP r = true := by
  unfold meet1 at h
  split at h
  · cases h; exact hq
  · split at h
    · cases h; exact hp
    · cases h
theorem meetL_mem (a b : List Pfx) (r : Pfx) : r ∈ meetL a b ↔ ∃ p ∈ a, ∃ q ∈ b, meet1 p q = some r := by
  unfold meetL rowL
  simp only [List.mem_flatMap, List.mem_filterMap]
theorem meetL_ok {a b : List Pfx} (ha : ∀ p ∈ a, okP p = true) (hb : ∀ p ∈ b, okP p = true) : ∀ p ∈ meetL a b, okP p = true := by
  intro r hr
  obtain ⟨p, hp, q, hq, h⟩ := (meetL_mem a b r).1 hr
  exact meet1_ok (ha p hp) (hb q hq) h
theorem meet_mem {a b : List Pfx} (ha : ∀ p ∈ a, okP p = true) (hb : ∀ p ∈ b, okP p = true) (v : Int) (x : Nat) : Mem v x (meetL a b) ↔ Mem v x a ∧ Mem v x b := by
  constructor
  · rintro ⟨r, hr, hx⟩
    obtain ⟨p, hp, q, hq, h⟩ := (meetL_mem a b r).1 hr
    obtain ⟨h1, h2⟩ := (meet1_pt (ha p hp) (hb q hq) v x).1 ⟨r, h, hx⟩
    exact ⟨⟨p, hp, h1⟩, ⟨q, hq, h2⟩⟩
  · rintro ⟨⟨p, hp, h1⟩, ⟨q, hq, h2⟩⟩
    obtain ⟨r, h, hx⟩ := (meet1_pt (ha p hp) (hb q hq) v x).2 ⟨h1, h2⟩
    exact ⟨r, (meetL_mem a b r).2 ⟨p, hp, q, hq, h⟩, hx⟩

/-- The first half. -/
def downP (p : Pfx) : Pfx := ⟨p.a, p.bits + 1⟩
/-- What is left of a prefix without others. -/
def restL : Nat → Pfx → List Pfx → List Pfx
  | 0, _, _ => []
  | f + 1, p, b => if (b.any fun q => holdsP q p) = true then [] else
      if (b.filter fun q => holdsP p q) = [] then [p] else restL f (downP p) (b.filter fun q => holdsP p q) ++ restL f (halfP (downP p)) (b.filter fun q => holdsP p q)
def minusL (a b : List Pfx) : List Pfx := a.flatMap fun p => restL 129 p b

/-- Deeper: some prefix is within it, and is not it. -/
theorem down_ok {p q : Pfx} (hp : okP p = true) (hq : okP q = true) (h : holdsP p q = true) (k : holdsP q p = false) : okP (downP p) = true ∧ lP (downP p) = lP p + 1 ∧ loP (downP p) = loP p ∧ lP p < 128 ∧ nP (downP p) = 2 * nP p := by
  obtain ⟨h1, h2, h3⟩ := (holds_iff hp hq).1 h
  have hne : lP p ≠ lP q := fun e => by
    have : p = q := ok_ext hp hq h1 e (by rw [← h3, e]; rfl)
    subst this
    rw [holds_refl hp] at k; cases k
  have hl := ok_l hp
  have hl2 := ok_l hq
  obtain ⟨ha, h0, hw, hc⟩ := (okP_iff p).1 hp
  obtain ⟨ha2, h02, hw2, hc2⟩ := (okP_iff q).1 hq
  have hb : (downP p).bits = p.bits + 1 := rfl
  have e1 : lP (downP p) = lP p + 1 := by unfold lP; rw [hb]; omega
  have e2 : loP (downP p) = loP p := rfl
  refine ⟨?_, e1, e2, by omega, ?_⟩
  · rw [okP_iff]
    refine ⟨ha, by omega, ?_, ?_⟩
    · show p.bits + 1 ≤ width p.a.ver
      rw [h1]; omega
    · show clearL p.a.bs (downP p).bits.toNat = true
      rw [clearL_iff] at hc ⊢
      intro k hk hk2
      exact hc k (by rw [hb] at hk; omega) hk2
  · have e3 : 2 ^ (128 - lP p) = 2 * 2 ^ (128 - (lP p + 1)) := by rw [← Nat.pow_succ']; congr 1; omega
    show loP (downP p) / 2 ^ (128 - lP (downP p)) = 2 * nP p
    rw [e1, e2, ok_lo hp, e3, ← Nat.mul_assoc, Nat.mul_div_cancel _ (Nat.two_pow_pos _), Nat.mul_comm]
theorem down_parts {p : Pfx} (hd : okP (downP p) = true) (h1 : lP (downP p) = lP p + 1) (h2 : nP (downP p) = 2 * nP p) (hl : lP p < 128) : okP (halfP (downP p)) = true ∧ lP (halfP (downP p)) = lP p + 1 ∧ (∀ v x, inP v x p ↔ inP v x (downP p) ∨ inP v x (halfP (downP p))) ∧ ∀ v x, ¬ (inP v x (downP p) ∧ inP v x (halfP (downP p))) := by
  obtain ⟨k0, k1, k2, k3⟩ := half_ok hd (by omega)
  rw [h2, if_pos (by omega)] at k3
  refine ⟨k0, by omega, fun v x => ?_, fun v x => ?_⟩
  · unfold inP
    rw [k1, k2, k3, h1, h2, show 128 - lP p = 128 - (lP p + 1) + 1 by omega, Nat.pow_succ, ← Nat.div_div_eq_div_mul]
    show p.a.ver = v ∧ _ ↔ p.a.ver = v ∧ _ ∨ p.a.ver = v ∧ _
    omega
  · unfold inP
    rw [k2, k3, h1, h2]
    omega
theorem two_filters (p q : Pfx → Bool) (l : List Pfx) (h : ∀ x ∈ l, ¬ (p x = true ∧ q x = true)) : (l.filter p).length + (l.filter q).length ≤ l.length := by
  induction l with
  | nil => simp
  | cons x l ih =>
    have ih' := ih fun y hy => h y (by simp [hy])
    have hx := h x (by simp)
    simp only [List.filter_cons, List.length_cons]
    by_cases h1 : p x = true
    · have h2 : q x = false := by
        cases h2 : q x
        · rfl
        · exact (hx ⟨h1, h2⟩).elim
      simp [h1, h2]; omega
    · by_cases h2 : q x = true
      · simp [h1, h2]; omega
      · simp [h1, h2]; omega
theorem rest_ok : ∀ (f : Nat) (p : Pfx) (b : List Pfx), okP p = true → (∀ q ∈ b, okP q = true) → 129 ≤ f + lP p → (∀ r ∈ restL f p b, okP r = true) ∧ (∀ v x, Mem v x (restL f p b) ↔ inP v x p ∧ ¬ Mem v x b) ∧ (restL f p b).length ≤ 1 + f * (b.filter fun q => holdsP p q).length
  | 0, p, b, hp, _, hf => by have := ok_l hp; omega
  | f + 1, p, b, hp, hb, hf => by
    unfold restL
    by_cases h1 : (b.any fun q => holdsP q p) = true
    · rw [if_pos h1]
      refine ⟨by simp, fun v x => ?_, by simp⟩
      obtain ⟨q, hq, h⟩ := List.any_eq_true.1 h1
      constructor
      · rintro ⟨r, hr, _⟩; cases hr
      · rintro ⟨h2, h3⟩
        exact (h3 ⟨q, hq, in_of_holds (hb q hq) hp h h2⟩).elim
    · rw [if_neg h1]
      have h1' : ∀ q ∈ b, holdsP q p = false := fun q hq => by
        cases h : holdsP q p
        · rfl
        · exact (h1 (List.any_eq_true.2 ⟨q, hq, h⟩)).elim
      have hin : ∀ v x, inP v x p → (Mem v x b ↔ Mem v x (b.filter fun q => holdsP p q)) := fun v x hx => by
        constructor
        · rintro ⟨q, hq, h2⟩
          refine ⟨q, List.mem_filter.2 ⟨hq, ?_⟩, h2⟩
          rcases Nat.le_total (lP p) (lP q) with hl | hl
          · exact holds_of_in hp (hb q hq) hx h2 hl
          · have := holds_of_in (hb q hq) hp h2 hx hl
            rw [h1' q hq] at this; cases this
        · rintro ⟨q, hq, h2⟩
          exact ⟨q, (List.mem_filter.1 hq).1, h2⟩
      have hbi : ∀ q ∈ b.filter fun q => holdsP p q, okP q = true := fun q hq => hb q (List.mem_filter.1 hq).1
      by_cases h2 : (b.filter fun q => holdsP p q) = []
      · rw [if_pos h2]
        refine ⟨by simpa using hp, fun v x => ?_, by simp⟩
        rw [Mem.one]
        constructor
        · intro hx
          refine ⟨hx, fun hm => ?_⟩
          rw [hin v x hx, h2] at hm
          obtain ⟨r, hr, _⟩ := hm; cases hr
        · exact fun h => h.1
      · rw [if_neg h2]
        obtain ⟨q, hq⟩ := List.exists_mem_of_ne_nil _ h2
        obtain ⟨hq1, hq2⟩ := List.mem_filter.1 hq
        obtain ⟨d0, d1, _, d3, d4⟩ := down_ok hp (hb q hq1) hq2 (h1' q hq1)
        obtain ⟨e0, e1, e2, e3⟩ := down_parts d0 d1 d4 d3
        obtain ⟨r1, r2, r3⟩ := rest_ok f (downP p) _ d0 hbi (by omega)
        obtain ⟨s1, s2, s3⟩ := rest_ok f (halfP (downP p)) _ e0 hbi (by omega)
        refine ⟨fun r hr => ?_, fun v x => ?_, ?_⟩
        · rcases List.mem_append.1 hr with h | h
          · exact r1 r h
          · exact s1 r h
        · rw [Mem.append, r2, s2, e2]
          constructor
          · rintro (⟨h3, h4⟩ | ⟨h3, h4⟩)
            · exact ⟨.inl h3, fun hm => h4 ((hin v x ((e2 v x).2 (.inl h3))).1 hm)⟩
            · exact ⟨.inr h3, fun hm => h4 ((hin v x ((e2 v x).2 (.inr h3))).1 hm)⟩
          · rintro ⟨h3, h4⟩
            have hx := (e2 v x).2 h3
            have h5 := fun hm => h4 ((hin v x hx).2 hm)
            rcases h3 with h3 | h3
            · exact .inl ⟨h3, h5⟩
            · exact .inr ⟨h3, h5⟩
        · have h6 := two_filters (fun q => holdsP (downP p) q) (fun q => holdsP (halfP (downP p)) q) (b.filter fun q => holdsP p q) (fun q hq ⟨h3, h4⟩ => e3 _ _ ⟨in_of_holds d0 (hbi q hq) h3 in_lo, in_of_holds e0 (hbi q hq) h4 in_lo⟩)
          have h7 : 0 < (b.filter fun q => holdsP p q).length := List.length_pos_of_mem hq
          rw [List.length_append]
          generalize (b.filter fun q => holdsP p q) = B at *
          generalize (B.filter fun q => holdsP (downP p) q).length = x1 at *
          generalize (B.filter fun q => holdsP (halfP (downP p)) q).length = x2 at *
          have h8 : f * x1 + f * x2 ≤ f * B.length := by rw [← Nat.mul_add]; exact Nat.mul_le_mul_left _ h6
          rw [Nat.succ_mul]
          omega
theorem minusL_ok {a b : List Pfx} (ha : ∀ p ∈ a, okP p = true) (hb : ∀ p ∈ b, okP p = true) : (∀ r ∈ minusL a b, okP r = true) ∧ (∀ v x, Mem v x (minusL a b) ↔ Mem v x a ∧ ¬ Mem v x b) ∧ (minusL a b).length ≤ a.length * (1 + 129 * b.length) := by
  refine ⟨fun r hr => ?_, fun v x => ?_, ?_⟩
  · obtain ⟨p, hp, h⟩ := List.mem_flatMap.1 hr
    exact (rest_ok 129 p b (ha p hp) hb (by omega)).1 r h
  · constructor
    · rintro ⟨r, hr, hx⟩
      obtain ⟨p, hp, h⟩ := List.mem_flatMap.1 hr
      obtain ⟨h1, h2⟩ := ((rest_ok 129 p b (ha p hp) hb (by omega)).2.1 v x).1 ⟨r, h, hx⟩
      exact ⟨⟨p, hp, h1⟩, h2⟩
    · rintro ⟨⟨p, hp, h1⟩, h2⟩
      obtain ⟨r, hr, hx⟩ := ((rest_ok 129 p b (ha p hp) hb (by omega)).2.1 v x).2 ⟨h1, h2⟩
      exact ⟨r, List.mem_flatMap.2 ⟨p, hp, hr⟩, hx⟩
  · unfold minusL
    induction a with
    | nil => simp
    | cons p a ih =>
      have h1 := (rest_ok 129 p b (ha p (by simp)) hb (by omega)).2.2
      have h2 : (b.filter fun q => holdsP p q).length ≤ b.length := List.length_filter_le _ _
      have ih' := ih fun q hq => ha q (by simp [hq])
      rw [List.flatMap_cons, List.length_append, List.length_cons, Nat.succ_mul]
      omega

/-- What the calls hand back. -/
def unionR (a b : List Pfx) : List Pfx := oneL (oneL (a ++ b))
def meetR (a b : List Pfx) : List Pfx := oneL (meetL a b)
def minusR (a b : List Pfx) : List Pfx := oneL (minusL a b)
theorem union_len (a b : List Pfx) : (unionR a b).length ≤ a.length + b.length := by
  have h1 := oneL_len (oneL (a ++ b))
  have h2 := oneL_len (a ++ b)
  rw [List.length_append] at h2
  unfold unionR; omega
theorem meetR_len (a b : List Pfx) : (meetR a b).length ≤ a.length * b.length := Nat.le_trans (oneL_len _) (meetL_len a b)
section
variable {a b : List Pfx} (ha : Canon a) (hb : Canon b)
include ha hb
theorem union_ok : Canon (unionR a b) ∧ ∀ v x, Mem v x (unionR a b) ↔ Mem v x a ∨ Mem v x b := by
  obtain ⟨h1, h2⟩ := one_ok (a ++ b) fun p hp => (List.mem_append.1 hp).elim (ha.ok p) (hb.ok p)
  unfold unionR
  rw [one_id h1]
  exact ⟨h1, fun v x => by rw [h2, Mem.append]⟩
theorem meetR_ok : Canon (meetR a b) ∧ ∀ v x, Mem v x (meetR a b) ↔ Mem v x a ∧ Mem v x b := by
  obtain ⟨h1, h2⟩ := one_ok (meetL a b) (meetL_ok ha.ok hb.ok)
  exact ⟨h1, fun v x => by rw [show meetR a b = oneL (meetL a b) from rfl, h2, meet_mem ha.ok hb.ok]⟩
theorem minusR_ok : Canon (minusR a b) ∧ ∀ v x, Mem v x (minusR a b) ↔ Mem v x a ∧ ¬ Mem v x b := by
  obtain ⟨k1, k2, _⟩ := minusL_ok ha.ok hb.ok
  obtain ⟨h1, h2⟩ := one_ok (minusL a b) k1
  exact ⟨h1, fun v x => by rw [show minusR a b = oneL (minusL a b) from rfl, h2, k2]⟩
/-- CoverParts's sentences. -/
theorem parts_all : unionR (meetR a b) (minusR a b) = a := by
  obtain ⟨m1, m2⟩ := meetR_ok ha hb
  obtain ⟨d1, d2⟩ := minusR_ok ha hb
  obtain ⟨u1, u2⟩ := union_ok m1 d1
  refine u1.ext ha fun v x => ?_
  rw [u2, m2, d2]
  by_cases h : Mem v x b <;> simp [h]
theorem parts_both : meetR (meetR a b) (minusR a b) = [] := by
  obtain ⟨m1, m2⟩ := meetR_ok ha hb
  obtain ⟨d1, d2⟩ := minusR_ok ha hb
  obtain ⟨u1, u2⟩ := meetR_ok m1 d1
  refine u1.ext Canon.nil fun v x => ?_
  rw [u2, m2, d2]
  constructor
  · rintro ⟨⟨_, h1⟩, _, h2⟩; exact (h2 h1).elim
  · rintro ⟨r, hr, _⟩; cases hr
theorem parts_none : meetR (minusR a b) b = [] := by
  obtain ⟨d1, d2⟩ := minusR_ok ha hb
  obtain ⟨u1, u2⟩ := meetR_ok d1 hb
  refine u1.ext Canon.nil fun v x => ?_
  rw [u2, d2]
  constructor
  · rintro ⟨⟨_, h1⟩, h2⟩; exact (h1 h2).elim
  · rintro ⟨r, hr, _⟩; cases hr
theorem parts_in : meetR (meetR a b) b = meetR a b := by
  obtain ⟨m1, m2⟩ := meetR_ok ha hb
  obtain ⟨u1, u2⟩ := meetR_ok m1 hb
  refine u1.ext m1 fun v x => ?_
  rw [u2, m2]
  exact ⟨fun h => h.1, fun h => ⟨h, h.2⟩⟩
theorem parts_left : meetR (minusR a b) a = minusR a b := by
  obtain ⟨d1, d2⟩ := minusR_ok ha hb
  obtain ⟨u1, u2⟩ := meetR_ok d1 ha
  refine u1.ext d1 fun v x => ?_
  rw [u2, d2]
  exact ⟨fun h => h.1, fun h => ⟨h, h.1⟩⟩
/-- CoverSame's sentences. -/
theorem within_iff : meetR a b = a ↔ ∀ v x, Mem v x a → Mem v x b := by
  obtain ⟨m1, m2⟩ := meetR_ok ha hb
  constructor
  · intro h v x hx
    rw [← h, m2] at hx; exact hx.2
  · intro h
    refine m1.ext ha fun v x => ?_
    rw [m2]
    exact ⟨fun k => k.1, fun k => ⟨k, h v x k⟩⟩
theorem same_both : (meetR a b = a ∧ meetR b a = b) ↔ a = b := by
  rw [within_iff ha hb, within_iff hb ha]
  constructor
  · rintro ⟨h1, h2⟩; exact ha.ext hb fun v x => ⟨h1 v x, h2 v x⟩
  · rintro rfl; exact ⟨fun _ _ h => h, fun _ _ h => h⟩
theorem same_union : unionR a b = unionR b a := by
  obtain ⟨m1, m2⟩ := union_ok ha hb
  obtain ⟨u1, u2⟩ := union_ok hb ha
  exact m1.ext u1 fun v x => by rw [m2, u2]; exact or_comm
theorem same_in : meetR a b = a ↔ unionR a b = b := by
  obtain ⟨m1, m2⟩ := union_ok ha hb
  rw [within_iff ha hb]
  constructor
  · intro h
    refine m1.ext hb fun v x => ?_
    rw [m2]
    exact ⟨fun k => k.elim (h v x) id, .inr⟩
  · intro h v x hx
    rw [← h, m2]; exact .inl hx
end
end Go.Proofs.YtfdebdbmdbmbbaaDoor
