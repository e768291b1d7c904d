/- The one form of prefixes, as cover.one makes it: plain. -/
import Derived.Test.YtfdebdbmdbmbbaaDoorCovA
import Derived.Test.YtfdebdbmdbmbbaaDoorSlice
set_option linter.unusedSimpArgs false
set_option linter.unusedVariables false
namespace Go.Proofs.YtfdebdbmdbmbbaaDoor

def halfP (p : Pfx) : Pfx := flipP p (p.bits - 1).toNat
def upP (p : Pfx) : Pfx := (ofP p.a (p.bits - 1)).1
/-- The last one, and the last but one. -/
def lastP (O : List Pfx) : Pfx := O.getD (O.length - 1) pfx0
def last2P (O : List Pfx) : Pfx := O.getD (O.length - 2) pfx0
def canMerge (O : List Pfx) : Bool := decide (1 < O.length) && decide (0 < (lastP O).bits) && decide (last2P O = halfP (lastP O))
def mergeStep (O : List Pfx) : List Pfx := O.take (O.length - 2) ++ [upP (lastP O)]
def mergeF : Nat → List Pfx → List Pfx
  | 0, O => O
  | f + 1, O => if canMerge O = true then mergeF f (mergeStep O) else O
def pushP (O : List Pfx) (p : Pfx) : List Pfx := if (decide (0 < O.length) && holdsP (lastP O) p) = true then O else mergeF (O.length + 1) (O ++ [p])
def bitsOk (p : Pfx) : Prop := 0 ≤ p.bits ∧ p.bits ≤ 128

theorem bitsOk_up (p : Pfx) (h : bitsOk p) : bitsOk (upP p) := by
  unfold upP ofP bitsOk at *
  split
  · split
    · simp only; omega
    · simp [pfx0]
  · simp [pfx0]
theorem bitsOk_of_ok (p : Pfx) (h : okP p = true) : bitsOk p := by
  unfold okP at h
  simp only [Bool.and_eq_true, decide_eq_true_eq] at h
  have := width_bd p.a.ver
  unfold bitsOk; omega
theorem mergeStep_len (O : List Pfx) (h : canMerge O = true) : (mergeStep O).length + 1 = O.length := by
  unfold canMerge at h
  simp only [Bool.and_eq_true, decide_eq_true_eq] at h
  simp [mergeStep]; omega
theorem mergeF_len : ∀ (f : Nat) (O : List Pfx), (mergeF f O).length ≤ O.length
  | 0, O => by simp [mergeF]
  | f + 1, O => by
    unfold mergeF
    split
    · rename_i h
      have := mergeStep_len O h
      have := mergeF_len f (mergeStep O)
      omega
    · omega
theorem pushP_len (O : List Pfx) (p : Pfx) : (pushP O p).length ≤ O.length + 1 := by
  unfold pushP
  split
  · omega
  · have := mergeF_len (O.length + 1) (O ++ [p])
    simpa using this
theorem foldl_push_len (xs : List Pfx) : ∀ O : List Pfx, (xs.foldl pushP O).length ≤ O.length + xs.length := by
  induction xs with
  | nil => intro O; simp
  | cons x xs ih =>
    intro O
    have := ih (pushP O x)
    have := pushP_len O x
    simp only [List.foldl_cons, List.length_cons]
    omega
theorem lastP_mem (O : List Pfx) (h : 0 < O.length) : lastP O ∈ O := by
  unfold lastP
  rw [List.getD_eq_getElem?_getD, List.getElem?_eq_getElem (by omega)]
  exact List.getElem_mem _
theorem bitsOk_step (O : List Pfx) (h : ∀ p ∈ O, bitsOk p) (hc : canMerge O = true) : ∀ p ∈ mergeStep O, bitsOk p := by
  unfold canMerge at hc
  simp only [Bool.and_eq_true, decide_eq_true_eq] at hc
  intro p hp
  unfold mergeStep at hp
  rw [List.mem_append] at hp
  rcases hp with hp | hp
  · exact h p (List.mem_of_mem_take hp)
  · rw [List.mem_singleton] at hp
    subst hp
    exact bitsOk_up _ (h _ (lastP_mem O (by omega)))
theorem bitsOk_mergeF : ∀ (f : Nat) (O : List Pfx), (∀ p ∈ O, bitsOk p) → ∀ p ∈ mergeF f O, bitsOk p
  | 0, O, h => by simpa [mergeF] using h
  | f + 1, O, h => by
    unfold mergeF
    split
    · rename_i hc
      exact bitsOk_mergeF f _ (bitsOk_step O h hc)
    · exact h
theorem bitsOk_push (O : List Pfx) (p : Pfx) (h : ∀ q ∈ O, bitsOk q) (hp : bitsOk p) : ∀ q ∈ pushP O p, bitsOk q := by
  unfold pushP
  split
  · exact h
  · refine bitsOk_mergeF _ _ fun q hq => ?_
    rw [List.mem_append, List.mem_singleton] at hq
    rcases hq with hq | rfl
    · exact h q hq
    · exact hp

theorem foldl_take_succ {α β : Type} (f : β → α → β) (b : β) (xs : List α) (k : Nat) (x : α) (h : xs[k]? = some x) : (xs.take (k + 1)).foldl f b = f ((xs.take k).foldl f b) x := by
  rw [List.take_add_one, h]; simp
end Go.Proofs.YtfdebdbmdbmbbaaDoor
