/- The one form of sets of addresses: cover.one's rows are in it, and it is the only one: plain. -/
import Derived.Test.YtfdebdbmdbmbbaaDoorBits
import Derived.Test.YtfdebdbmdbmbbaaDoorCovD
set_option linter.unusedSimpArgs false
set_option linter.unusedVariables false
namespace Go.Proofs.YtfdebdbmdbmbbaaDoor
open Go.Sort

/-- One stands wholly ahead of another one. -/
def bef (p q : Pfx) : Prop := p.a.ver < q.a.ver ∨ (p.a.ver = q.a.ver ∧ loP p + 2 ^ (128 - lP p) ≤ loP q)
/-- Two halves of one. -/
def sib (p q : Pfx) : Prop := p.a.ver = q.a.ver ∧ lP p = lP q ∧ 0 < lP p ∧ nP p % 2 = 0 ∧ nP q = nP p + 1
/-- In the order of rows. -/
def le3 (p q : Pfx) : Prop := p.a.ver < q.a.ver ∨ (p.a.ver = q.a.ver ∧ (loP p < loP q ∨ (loP p = loP q ∧ lP p ≤ lP q)))
theorem le3.trans {p q r : Pfx} (h : le3 p q) (k : le3 q r) : le3 p r := by unfold le3 at *; omega
theorem bef.le {p q r : Pfx} (h : bef p q) (k : le3 q r) : bef p r := by unfold bef le3 at *; omega
theorem bef.trans {p q r : Pfx} (h : bef p q) (k : bef q r) : bef p r := by
  have := Nat.two_pow_pos (128 - lP q)
  unfold bef at *; omega
theorem bef.irrefl {p : Pfx} (h : bef p p) : False := by
  have := Nat.two_pow_pos (128 - lP p)
  unfold bef at h; omega
theorem bef.disj {p q : Pfx} (hp : okP p = true) (hq : okP q = true) (h : bef p q) {v : Int} {x : Nat} (h1 : inP v x p) (h2 : inP v x q) : False := by
  rw [in_bd hp] at h1
  rw [in_bd hq] at h2
  unfold bef at h; omega
theorem mul_between (a b s : Nat) (h1 : a * s ≤ b * s) (h2 : b * s < a * s + s) : a = b := by
  have hs : 0 < s := by
    rcases Nat.eq_zero_or_pos s with h | h
    · subst h; simp at h2
    · exact h
  have h3 : a ≤ b := Nat.le_of_mul_le_mul_right h1 hs
  have h4 : b * s < (a + 1) * s := by rw [Nat.succ_mul]; exact h2
  have h5 : b < a + 1 := Nat.lt_of_mul_lt_mul_right h4
  omega
/-- What stands ahead in order, and does not hold the other one, stands wholly ahead. -/
theorem bef_of_le3 {p q : Pfx} (hp : okP p = true) (hq : okP q = true) (h : le3 p q) (hh : holdsP p q = false) : bef p q := by
  unfold le3 at h
  unfold bef
  rcases h with h | ⟨hv, h⟩
  · exact .inl h
  refine .inr ⟨hv, ?_⟩
  refine Nat.le_of_not_lt fun hlt => ?_
  have hin : inP q.a.ver (loP q) p := (in_bd hp).2 ⟨hv, by omega, by omega⟩
  by_cases hl : lP p ≤ lP q
  · have := holds_of_in hp hq hin in_lo hl
    rw [hh] at this; cases this
  · have h1 := ok_lo hp
    have h2 := ok_lo hq
    have hpl := ok_l hp
    have e : 2 ^ (128 - lP q) = 2 ^ (lP p - lP q) * 2 ^ (128 - lP p) := by
      rw [← Nat.pow_add]; congr 1; omega
    rw [e, ← Nat.mul_assoc] at h2
    rw [h1, h2] at h hlt
    have := mul_between _ _ _ (by omega) hlt
    rw [this] at h
    omega

/-- A row in the one form. -/
structure Canon (l : List Pfx) : Prop where
  ok : ∀ p ∈ l, okP p = true
  ord : l.Pairwise bef
  sibs : ∀ p ∈ l, ∀ q ∈ l, ¬ sib p q

theorem pairwise_get {α : Type} {R : α → α → Prop} {l : List α} (h : l.Pairwise R) {p q : α} (hp : p ∈ l) (hq : q ∈ l) : p = q ∨ R p q ∨ R q p := by
  obtain ⟨i, hi, rfl⟩ := List.getElem_of_mem hp
  obtain ⟨j, hj, rfl⟩ := List.getElem_of_mem hq
  rw [List.pairwise_iff_getElem] at h
  rcases Nat.lt_trichotomy i j with e | e | e
  · exact .inr (.inl (h i j hi hj e))
  · subst e; exact .inl rfl
  · exact .inr (.inr (h j i hj hi e))
theorem Canon.same {l : List Pfx} (h : Canon l) {p q : Pfx} (hp : p ∈ l) (hq : q ∈ l) {v : Int} {x : Nat} (h1 : inP v x p) (h2 : inP v x q) : p = q := by
  rcases pairwise_get h.ord hp hq with e | e | e
  · exact e
  · exact (bef.disj (h.ok _ hp) (h.ok _ hq) e h1 h2).elim
  · exact (bef.disj (h.ok _ hq) (h.ok _ hp) e h2 h1).elim
/-- Whatever block of points is in a set, one prefix of the set has all of it. -/
theorem Canon.whole {l : List Pfx} (h : Canon l) : ∀ (k : Nat), k ≤ 128 → ∀ (v : Int) (n : Nat), (∀ x, x / 2 ^ k = n → Mem v x l) → ∃ q ∈ l, q.a.ver = v ∧ k ≤ 128 - lP q ∧ n / 2 ^ (128 - lP q - k) = nP q
  | 0, _, v, n, hm => by
    obtain ⟨q, hq, h1, h2⟩ := hm n (by simp)
    exact ⟨q, hq, h1, by omega, by simpa using h2⟩
  | k + 1, hk, v, n, hm => by
    obtain ⟨q0, hq0, hv0, hk0, hn0⟩ := Canon.whole h k (by omega) v (2 * n) (fun x hx => hm x (by rw [Nat.pow_succ, ← Nat.div_div_eq_div_mul, hx]; omega))
    obtain ⟨q1, hq1, hv1, hk1, hn1⟩ := Canon.whole h k (by omega) v (2 * n + 1) (fun x hx => hm x (by rw [Nat.pow_succ, ← Nat.div_div_eq_div_mul, hx]; omega))
    by_cases h0 : k + 1 ≤ 128 - lP q0
    · refine ⟨q0, hq0, hv0, h0, ?_⟩
      rw [← hn0, show 128 - lP q0 - k = 128 - lP q0 - (k + 1) + 1 by omega, Nat.pow_succ', ← Nat.div_div_eq_div_mul]
      congr 1; omega
    · by_cases h1 : k + 1 ≤ 128 - lP q1
      · refine ⟨q1, hq1, hv1, h1, ?_⟩
        rw [← hn1, show 128 - lP q1 - k = 128 - lP q1 - (k + 1) + 1 by omega, Nat.pow_succ', ← Nat.div_div_eq_div_mul]
        congr 1; omega
      · exfalso
        rw [show 128 - lP q0 - k = 0 by omega, Nat.pow_zero, Nat.div_one] at hn0
        rw [show 128 - lP q1 - k = 0 by omega, Nat.pow_zero, Nat.div_one] at hn1
        have := ok_l (h.ok _ hq0)
        have := ok_l (h.ok _ hq1)
        exact h.sibs q0 hq0 q1 hq1 ⟨hv0.trans hv1.symm, by omega, by omega, by omega, by omega⟩
theorem Canon.held {l m : List Pfx} (hl : Canon l) (hm : Canon m) (hs : ∀ v x, Mem v x l → Mem v x m) {p : Pfx} (hp : p ∈ l) : ∃ q ∈ m, holdsP q p = true := by
  have hop := hl.ok _ hp
  have hlp := ok_l hop
  obtain ⟨q, hq, hv, hk, hn⟩ := hm.whole (128 - lP p) (by omega) p.a.ver (nP p) (fun x hx => hs _ _ ⟨p, hp, rfl, hx⟩)
  have hoq := hm.ok _ hq
  refine ⟨q, hq, (holds_iff hoq hop).2 ⟨hv, by have := ok_l hoq; omega, ?_⟩⟩
  rw [ok_lo hop, div_pow_split _ (128 - lP q) (128 - lP p) hk, Nat.mul_div_cancel _ (Nat.two_pow_pos _), hn]
theorem holds_anti {p q : Pfx} (hp : okP p = true) (hq : okP q = true) (h : holdsP p q = true) (k : holdsP q p = true) : p = q := by
  obtain ⟨h1, h2, h3⟩ := (holds_iff hp hq).1 h
  obtain ⟨k1, k2, k3⟩ := (holds_iff hq hp).1 k
  have e : lP p = lP q := by omega
  refine ok_ext hp hq h1 e ?_
  rw [← h3, e]; rfl
theorem holds_trans {p q r : Pfx} (hp : okP p = true) (hq : okP q = true) (hr : okP r = true) (h : holdsP p q = true) (k : holdsP q r = true) : holdsP p r = true :=
  holds_of_in hp hr (in_of_holds hp hq h (in_of_holds hq hr k in_lo)) in_lo (Nat.le_trans ((holds_iff hp hq).1 h).2.1 ((holds_iff hq hr).1 k).2.1)
theorem Canon.mem_of {l m : List Pfx} (hl : Canon l) (hm : Canon m) (hs : ∀ v x, Mem v x l ↔ Mem v x m) {p : Pfx} (hp : p ∈ l) : p ∈ m := by
  have hop := hl.ok _ hp
  obtain ⟨q, hq, h1⟩ := hl.held hm (fun v x => (hs v x).1) hp
  have hoq := hm.ok _ hq
  obtain ⟨r, hr, h2⟩ := hm.held hl (fun v x => (hs v x).2) hq
  have hor := hl.ok _ hr
  have e : r = p := hl.same hr hp (in_of_holds hor hoq h2 (in_of_holds hoq hop h1 in_lo)) in_lo
  subst e
  rw [holds_anti hor hoq h2 h1]; exact hq
theorem sorted_ext {α : Type} {R : α → α → Prop} (hirr : ∀ x, ¬ R x x) (htr : ∀ x y z, R x y → R y z → R x z) : ∀ l m : List α, l.Pairwise R → m.Pairwise R → (∀ x, x ∈ l ↔ x ∈ m) → l = m
  | [], [], _, _, _ => rfl
  | [], y :: m, _, _, h => by have := (h y).2 (by simp); cases this
  | x :: l, [], _, _, h => by have := (h x).1 (by simp); cases this
  | x :: l, y :: m, hl, hm, h => by
    rw [List.pairwise_cons] at hl hm
    have e : x = y := by
      rcases List.mem_cons.1 ((h x).1 (by simp)) with e | e
      · exact e
      · rcases List.mem_cons.1 ((h y).2 (by simp)) with e2 | e2
        · exact e2.symm
        · exact (hirr _ (htr _ _ _ (hm.1 _ e) (hl.1 _ e2))).elim
    subst e
    rw [sorted_ext hirr htr l m hl.2 hm.2 fun z => ?_]
    constructor
    · intro hz
      rcases List.mem_cons.1 ((h z).1 (List.mem_cons_of_mem _ hz)) with e | e
      · subst e; exact (hirr _ (hl.1 _ hz)).elim
      · exact e
    · intro hz
      rcases List.mem_cons.1 ((h z).2 (List.mem_cons_of_mem _ hz)) with e | e
      · subst e; exact (hirr _ (hm.1 _ hz)).elim
      · exact e
/-- The one form is the only one. -/
theorem Canon.ext {l m : List Pfx} (hl : Canon l) (hm : Canon m) (hs : ∀ v x, Mem v x l ↔ Mem v x m) : l = m :=
  sorted_ext (R := bef) (fun _ => bef.irrefl) (fun _ _ _ => bef.trans) l m hl.ord hm.ord fun _ => ⟨hl.mem_of hm hs, hm.mem_of hl fun v x => (hs v x).symm⟩

/-- What cover.one keeps while it merges: only the last two may be halves of one. -/
structure Nearly (O : List Pfx) : Prop where
  ok : ∀ p ∈ O, okP p = true
  ord : O.Pairwise bef
  sibs : ∀ p ∈ O.dropLast, ∀ q ∈ O.dropLast, ¬ sib p q

theorem lastP_snoc (Q : List Pfx) (t : Pfx) : lastP (Q ++ [t]) = t := by simp [lastP]
theorem last2P_snoc (Q : List Pfx) (s t : Pfx) : last2P (Q ++ [s, t]) = s := by simp [last2P]
theorem snoc2 (Q : List Pfx) (s t : Pfx) : Q ++ [s, t] = (Q ++ [s]) ++ [t] := by simp
theorem canMerge_two (Q : List Pfx) (s t : Pfx) : canMerge (Q ++ [s, t]) = (decide (0 < t.bits) && decide (s = halfP t)) := by
  unfold canMerge
  rw [last2P_snoc, snoc2, lastP_snoc]
  simp
theorem mergeStep_two (Q : List Pfx) (s t : Pfx) : mergeStep (Q ++ [s, t]) = Q ++ [upP t] := by
  unfold mergeStep
  rw [snoc2, lastP_snoc]
  simp
theorem canMerge_one (t : Pfx) : canMerge [t] = false := by simp [canMerge]
theorem canMerge_nil : canMerge [] = false := by simp [canMerge]
theorem snoc_cases (O : List Pfx) : O = [] ∨ (∃ t, O = [t]) ∨ ∃ Q s t, O = Q ++ [s, t] := by
  rcases List.eq_nil_or_concat O with h | ⟨l, t, h⟩
  · exact .inl h
  · rcases List.eq_nil_or_concat l with h2 | ⟨Q, s, h2⟩
    · exact .inr (.inl ⟨t, by rw [h, h2]; simp⟩)
    · exact .inr (.inr ⟨Q, s, t, by rw [h, h2]; simp⟩)
theorem dropLast_snoc (Q : List Pfx) (t : Pfx) : (Q ++ [t]).dropLast = Q := by simp
/-- Halves of one, of which one stands behind the other one. -/
theorem sib_of_half {s t : Pfx} (hs : okP s = true) (ht : okP t = true) (h0 : 0 < lP t) (hb : bef s t) (he : s = halfP t) : sib s t := by
  obtain ⟨_, h1, h2, h3⟩ := half_ok ht h0
  rw [← he] at h1 h2 h3
  have h4 := ok_lo hs
  have h5 := ok_lo ht
  rw [h2] at h4
  unfold bef at hb
  rw [h2] at hb
  have hpos := Nat.two_pow_pos (128 - lP t)
  have hlt : nP s < nP t := by
    have : nP s * 2 ^ (128 - lP t) < nP t * 2 ^ (128 - lP t) := by omega
    exact Nat.lt_of_mul_lt_mul_right this
  refine ⟨h1, h2, by omega, ?_, ?_⟩ <;> (split at h3 <;> omega)
theorem half_of_sib {s t : Pfx} (hs : okP s = true) (ht : okP t = true) (h : sib s t) : s = halfP t := by
  obtain ⟨h1, h2, h3, h4, h5⟩ := h
  obtain ⟨k0, k1, k2, k3⟩ := half_ok ht (by omega)
  refine ok_ext hs k0 (h1.trans k1.symm) (h2.trans k2.symm) ?_
  rw [k3, if_neg (by omega)]; omega
/-- Between halves of one there is nothing. -/
theorem sib_near {p q r : Pfx} (hp : okP p = true) (hr : okP r = true) (h : sib p r) (h1 : bef p q) (h2 : bef q r) : False := by
  obtain ⟨hv, hl, _, _, hn⟩ := h
  have e1 := ok_lo hp
  have e2 := ok_lo hr
  rw [← hl, hn, Nat.succ_mul] at e2
  have := Nat.two_pow_pos (128 - lP q)
  unfold bef at h1 h2
  omega
theorem sib_bef {p q : Pfx} (hp : okP p = true) (hq : okP q = true) (h : sib p q) : bef p q := by
  obtain ⟨hv, hl, _, _, hn⟩ := h
  have e1 := ok_lo hp
  have e2 := ok_lo hq
  rw [← hl, hn, Nat.succ_mul] at e2
  exact .inr ⟨hv, by omega⟩
theorem bef.asymm {p q : Pfx} (h : bef p q) (k : bef q p) : False := (h.trans k).irrefl
theorem Nearly.canon {O : List Pfx} (h : Nearly O) (hc : canMerge O = false) : Canon O := by
  refine ⟨h.ok, h.ord, fun p hp q hq hs => ?_⟩
  have hop := h.ok _ hp
  have hoq := h.ok _ hq
  have hb := sib_bef hop hoq hs
  rcases snoc_cases O with e | ⟨t, e⟩ | ⟨Q, s, t, e⟩
  · subst e; cases hp
  · subst e
    rw [List.mem_singleton] at hp hq
    subst hp; subst hq
    exact hb.irrefl
  · subst e
    have ho := h.ord
    have hsb := h.sibs
    rw [snoc2] at ho hsb hp hq
    rw [dropLast_snoc] at hsb
    rw [List.pairwise_append] at ho
    obtain ⟨ho1, _, ho2⟩ := ho
    rw [List.mem_append, List.mem_singleton] at hp hq
    rcases hp with hp | hp
    · rcases hq with hq | hq
      · exact hsb p hp q hq hs
      · subst hq
        rw [List.mem_append, List.mem_singleton] at hp
        rcases hp with hp | hp
        · rw [List.pairwise_append] at ho1
          have b1 := ho1.2.2 p hp s (by simp)
          have b2 := ho2 s (by simp) q (by simp)
          exact sib_near hop hoq hs b1 b2
        · subst hp
          rw [canMerge_two] at hc
          have := half_of_sib hop hoq hs
          have h0 := ok_l hoq
          have := hs.2.1
          have := hs.2.2.1
          simp only [Bool.and_eq_false_iff, decide_eq_false_iff_not] at hc
          rcases hc with hc | hc
          · omega
          · exact hc ‹_›
    · subst hp
      rcases hq with hq | hq
      · exact bef.asymm hb (ho2 q hq p (by simp))
      · subst hq; exact hb.irrefl
theorem up_parts {s t : Pfx} (hs : okP s = true) (ht : okP t = true) (h : sib s t) : okP (upP t) = true ∧ (upP t).a.ver = s.a.ver ∧ loP (upP t) = loP s ∧ lP (upP t) + 1 = lP s ∧ (∀ v x, inP v x (upP t) ↔ inP v x s ∨ inP v x t) := by
  have h0 : 0 < lP t := by have := h.2.1; have := h.2.2.1; omega
  obtain ⟨k0, k1, k2, k3⟩ := up_ok ht h0
  obtain ⟨hv, hl, _, he, hn⟩ := h
  have e1 := ok_lo hs
  have e2 := ok_lo k0
  have hlt := ok_l ht
  have hp : 2 ^ (128 - lP (upP t)) = 2 * 2 ^ (128 - lP s) := by
    rw [show 128 - lP (upP t) = (128 - lP s) + 1 by omega, Nat.pow_succ']
  have e3 : loP (upP t) = loP s := by
    rw [e2, e1, k3, hn, hp, show (nP s + 1) / 2 = nP s / 2 by omega, ← Nat.mul_assoc, show nP s / 2 * 2 = nP s by omega]
  refine ⟨k0, k1.trans hv.symm, e3, by omega, fun v x => ?_⟩
  unfold inP
  rw [k1, hv, hp, k3, ← hl, Nat.mul_comm 2, ← Nat.div_div_eq_div_mul, hn]
  omega
theorem Nearly.step {Q : List Pfx} {s t : Pfx} (h : Nearly (Q ++ [s, t])) (hs : sib s t) : Nearly (Q ++ [upP t]) := by
  have hos := h.ok s (by simp)
  have hot := h.ok t (by simp)
  obtain ⟨k0, k1, k2, k3, _⟩ := up_parts hos hot hs
  have ho := h.ord
  rw [snoc2, List.pairwise_append, List.pairwise_append] at ho
  refine ⟨fun p hp => ?_, ?_, ?_⟩
  · rw [List.mem_append, List.mem_singleton] at hp
    rcases hp with hp | rfl
    · exact h.ok p (by simp [hp])
    · exact k0
  · rw [List.pairwise_append]
    refine ⟨ho.1.1, by simp, fun p hp q hq => ?_⟩
    rw [List.mem_singleton] at hq
    subst hq
    have hb := ho.1.2.2 p hp s (by simp)
    unfold bef at hb ⊢
    rw [k1, k2]; exact hb
  · rw [dropLast_snoc]
    intro p hp q hq
    exact h.sibs p (by rw [snoc2, dropLast_snoc]; simp [hp]) q (by rw [snoc2, dropLast_snoc]; simp [hq])
theorem merge_ok : ∀ (f : Nat) (O : List Pfx), O.length ≤ f → Nearly O → Canon (mergeF f O) ∧ (∀ v x, Mem v x (mergeF f O) ↔ Mem v x O) ∧ ∀ p, (∀ q ∈ O, le3 q p) → ∀ q ∈ mergeF f O, le3 q p
  | 0, O, hf, hn => by
    have : O = [] := List.length_eq_zero_iff.1 (by omega)
    subst this
    exact ⟨hn.canon canMerge_nil, fun _ _ => Iff.rfl, fun _ h => h⟩
  | f + 1, O, hf, hn => by
    unfold mergeF
    by_cases hc : canMerge O = true
    · rw [if_pos hc]
      rcases snoc_cases O with e | ⟨t, e⟩ | ⟨Q, s, t, e⟩
      · subst e; rw [canMerge_nil] at hc; cases hc
      · subst e; rw [canMerge_one] at hc; cases hc
      · subst e
        have hc2 := hc
        rw [canMerge_two] at hc2
        simp only [Bool.and_eq_true, decide_eq_true_eq] at hc2
        have hos := hn.ok s (by simp)
        have hot := hn.ok t (by simp)
        have hb : bef s t := by
          have ho := hn.ord
          rw [snoc2, List.pairwise_append] at ho
          exact ho.2.2 s (by simp) t (by simp)
        have hlt := ok_l hot
        have hs := sib_of_half hos hot (by omega) hb hc2.2
        have hst := hn.step hs
        obtain ⟨k0, k1, k2, k3, k4⟩ := up_parts hos hot hs
        rw [mergeStep_two]
        obtain ⟨r1, r2, r3⟩ := merge_ok f (Q ++ [upP t]) (by simp at hf ⊢; omega) hst
        refine ⟨r1, fun v x => ?_, fun p hp => r3 p fun q hq => ?_⟩
        · rw [r2, Mem.append, Mem.one, k4, snoc2, Mem.append, Mem.append, Mem.one, Mem.one]
          exact or_assoc.symm
        · rw [List.mem_append, List.mem_singleton] at hq
          rcases hq with hq | rfl
          · exact hp q (by simp [hq])
          · have := hp s (by simp)
            unfold le3 at this ⊢
            rw [k1, k2]; omega
    · rw [if_neg hc]
      exact ⟨hn.canon (by simpa using hc), fun _ _ => Iff.rfl, fun _ h => h⟩
theorem push_ok {O : List Pfx} {p : Pfx} (hO : Canon O) (hp : okP p = true) (hle : ∀ q ∈ O, le3 q p) : Canon (pushP O p) ∧ (∀ v x, Mem v x (pushP O p) ↔ Mem v x O ∨ inP v x p) ∧ ∀ r, le3 p r → ∀ q ∈ pushP O p, le3 q r := by
  unfold pushP
  by_cases hh : (decide (0 < O.length) && holdsP (lastP O) p) = true
  · rw [if_pos hh]
    simp only [Bool.and_eq_true, decide_eq_true_eq] at hh
    have hm := lastP_mem O hh.1
    refine ⟨hO, fun v x => ⟨.inl, fun h => h.elim id fun h => ⟨_, hm, in_of_holds (hO.ok _ hm) hp hh.2 h⟩⟩, fun r hr q hq => (hle q hq).trans hr⟩
  · rw [if_neg hh]
    have hn : Nearly (O ++ [p]) := by
      refine ⟨fun q hq => ?_, ?_, by rw [dropLast_snoc]; exact hO.sibs⟩
      · rw [List.mem_append, List.mem_singleton] at hq
        rcases hq with hq | rfl
        · exact hO.ok q hq
        · exact hp
      · rw [List.pairwise_append]
        refine ⟨hO.ord, by simp, fun q hq r hr => ?_⟩
        rw [List.mem_singleton] at hr
        subst hr
        rcases List.eq_nil_or_concat O with e | ⟨Q, t, e⟩
        · subst e; cases hq
        · rw [List.concat_eq_append] at e
          subst e
          rw [lastP_snoc] at hh
          have hh2 : holdsP t r = false := by simpa using hh
          have hbt := bef_of_le3 (hO.ok t (by simp)) hp (hle t (by simp)) hh2
          rw [List.mem_append, List.mem_singleton] at hq
          rcases hq with hq | rfl
          · have ho := hO.ord
            rw [List.pairwise_append] at ho
            exact (ho.2.2 q hq t (by simp)).trans hbt
          · exact hbt
    obtain ⟨r1, r2, r3⟩ := merge_ok (O.length + 1) (O ++ [p]) (by simp) hn
    refine ⟨r1, fun v x => by rw [r2, Mem.append, Mem.one], fun r hr => r3 r fun q hq => ?_⟩
    rw [List.mem_append, List.mem_singleton] at hq
    rcases hq with hq | rfl
    · exact (hle q hq).trans hr
    · exact hr
theorem fold_ok : ∀ (S O : List Pfx), (∀ p ∈ S, okP p = true) → S.Pairwise le3 → Canon O → (∀ q ∈ O, ∀ p ∈ S, le3 q p) → Canon (S.foldl pushP O) ∧ ∀ v x, Mem v x (S.foldl pushP O) ↔ Mem v x O ∨ Mem v x S
  | [], O, _, _, hO, _ => ⟨hO, fun v x => by simp [Mem]⟩
  | p :: S, O, hS, hs, hO, hle => by
    rw [List.pairwise_cons] at hs
    obtain ⟨h1, h2, h3⟩ := push_ok hO (hS p (by simp)) (fun q hq => hle q hq p (by simp))
    obtain ⟨r1, r2⟩ := fold_ok S (pushP O p) (fun q hq => hS q (by simp [hq])) hs.2 h1 (fun q hq r hr => h3 r (hs.1 r hr) q hq)
    refine ⟨r1, fun v x => ?_⟩
    rw [List.foldl_cons, r2, h2, show p :: S = [p] ++ S from rfl, Mem.append, Mem.one]
    exact or_assoc
theorem le3_of_cmp {p q : Pfx} (hp : okP p = true) (hq : okP q = true) (h : ¬ compareP q p < 0) : le3 p q := by
  rw [cmp_iff hq hp] at h
  unfold le3; omega
theorem sortL_ok (xs : List Pfx) (h : ∀ p ∈ xs, okP p = true) : (sortL xs).Pairwise le3 := by
  have hs : (sortL xs).Pairwise fun x y => (!(ltOf compareP) y x) = true := by
    refine List.pairwise_mergeSort (fun a b c h1 h2 => ?_) (fun a b => ?_) xs
    · simp only [Bool.not_eq_true', Bool.eq_false_iff] at *
      intro h3
      exact absurd h3 (by
        have := compareP_is.swo.ntrans c b a (by simpa using h2) (by simpa using h1)
        simpa using this)
    · simp only [Bool.or_eq_true, Bool.not_eq_true']
      by_cases hb : ltOf compareP b a = true
      · right
        cases ha : ltOf compareP a b
        · rfl
        · have := compareP_is.swo.trans _ _ _ hb ha
          rw [compareP_is.swo.irrefl] at this; cases this
      · left; simpa using hb
  refine hs.imp_of_mem fun {a b} ha hb hab => ?_
  have ha' := h a (by simpa [sortL] using ha)
  have hb' := h b (by simpa [sortL] using hb)
  refine le3_of_cmp ha' hb' fun hlt => ?_
  simp only [Bool.not_eq_true', ltOf, decide_eq_false_iff_not] at hab
  exact hab hlt
theorem Canon.nil : Canon [] := ⟨by simp, List.Pairwise.nil, by simp⟩
/-- cover.one: the one form, of the same points. -/
theorem one_ok (xs : List Pfx) (h : ∀ p ∈ xs, okP p = true) : Canon (oneL xs) ∧ ∀ v x, Mem v x (oneL xs) ↔ Mem v x xs := by
  obtain ⟨r1, r2⟩ := fold_ok (sortL xs) [] (fun p hp => h p (by simpa [sortL] using hp)) (sortL_ok xs h) Canon.nil (by simp)
  refine ⟨r1, fun v x => ?_⟩
  show Mem v x ((sortL xs).foldl pushP []) ↔ _
  rw [r2]
  unfold Mem
  simp [sortL]
theorem one_id {xs : List Pfx} (h : Canon xs) : oneL xs = xs := (one_ok xs h.ok).1.ext h (one_ok xs h.ok).2
theorem oneL_len (xs : List Pfx) : (oneL xs).length ≤ xs.length := by
  have := foldl_push_len (sortL xs) []
  simpa [oneL, sortL] using this

end Go.Proofs.YtfdebdbmdbmbbaaDoor
