/- The order of prefixes is a strict total one. -/
import Derived.Test.YtfdebdbmdbmbbaaDoorBase
import Derived.Sort.Statements
import Derived.Shelf.SlSortCmp.Insertion
set_option linter.unusedSimpArgs false
set_option linter.unusedVariables false
namespace Go.Proofs.YtfdebdbmdbmbbaaDoor
open Go.Sort

/-- A comparison that is a total order. -/
structure IsCmp {α : Type} (c : α → α → Int) : Prop where
  eq0 : ∀ x y, c x y = 0 ↔ x = y
  anti : ∀ x y, c y x = - c x y
  trans : ∀ x y z, c x y < 0 → c y z < 0 → c x z < 0

theorem cmpI_is : IsCmp cmpI where
  eq0 x y := by unfold cmpI; split <;> (try split) <;> omega
  anti x y := by unfold cmpI; split <;> (try split) <;> (try split) <;> omega
  trans x y z := by unfold cmpI; split <;> (try split) <;> (try split) <;> (try split) <;> (try split) <;> omega

theorem cmpB_eq0 : ∀ l m : List UInt8, cmpB l m = 0 ↔ l = m
  | [], [] => by simp [cmpB]
  | [], _ :: _ => by simp [cmpB]
  | _ :: _, [] => by simp [cmpB]
  | a :: l, b :: m => by
    have ih := cmpB_eq0 l m
    simp only [cmpB, List.cons.injEq]
    by_cases h1 : a < b
    · simp [h1]; intro h; subst h; exact absurd h1 (UInt8.lt_irrefl a)
    · by_cases h2 : b < a
      · simp [h1, h2]; intro h; subst h; exact absurd h2 (UInt8.lt_irrefl a)
      · have : a = b := UInt8.le_antisymm (UInt8.not_lt.1 h2) (UInt8.not_lt.1 h1)
        simp [h1, h2, this, ih]
theorem cmpB_anti : ∀ l m : List UInt8, cmpB m l = - cmpB l m
  | [], [] => by simp [cmpB]
  | [], _ :: _ => by simp [cmpB]
  | _ :: _, [] => by simp [cmpB]
  | a :: l, b :: m => by
    have ih := cmpB_anti l m
    simp only [cmpB]
    by_cases h1 : a < b
    · have h2 : ¬ b < a := fun h => absurd (UInt8.lt_trans h1 h) (UInt8.lt_irrefl a)
      simp [h1, h2]
    · by_cases h2 : b < a
      · simp [h1, h2]
      · simp [h1, h2, ih]
theorem cmpB_trans : ∀ l m n : List UInt8, cmpB l m < 0 → cmpB m n < 0 → cmpB l n < 0
  | [], [], n, h, _ => by simp [cmpB] at h
  | [], _ :: _, [], _, h => by simp [cmpB] at h
  | [], _ :: _, _ :: _, _, _ => by simp [cmpB]
  | _ :: _, [], n, h, _ => by simp [cmpB] at h
  | _ :: _, _ :: _, [], _, h => by simp [cmpB] at h
  | a :: l, b :: m, c :: n, h, h' => by
    have ih := cmpB_trans l m n
    simp only [cmpB] at h h' ⊢
    by_cases h1 : a < b
    · by_cases h2 : b < c
      · simp [UInt8.lt_trans h1 h2]
      · by_cases h3 : c < b
        · simp [h2, h3] at h'
        · have : b = c := UInt8.le_antisymm (UInt8.not_lt.1 h3) (UInt8.not_lt.1 h2)
          subst this; simp [h1]
    · by_cases h2 : b < a
      · simp [h1, h2] at h
      · have : a = b := UInt8.le_antisymm (UInt8.not_lt.1 h2) (UInt8.not_lt.1 h1)
        subst this
        simp only [h1, if_false] at h
        by_cases h3 : a < c
        · simp [h3]
        · by_cases h4 : c < a
          · simp [h3, h4] at h'
          · simp only [h3, h4, if_false] at h' ⊢
            exact ih h h'
theorem cmpB_is : IsCmp cmpB := ⟨cmpB_eq0, cmpB_anti, cmpB_trans⟩

/-- One comparison, and another one where that finds no difference. -/
theorem IsCmp.lex {α β γ : Type} {c : α → α → Int} {c1 : β → β → Int} {c2 : γ → γ → Int} (h1 : IsCmp c1) (h2 : IsCmp c2) (f : α → β) (g : α → γ) (hc : ∀ x y, c x y = orI (c1 (f x) (f y)) (c2 (g x) (g y))) (hinj : ∀ x y, f x = f y → g x = g y → x = y) : IsCmp c where
  eq0 x y := by
    rw [hc]; unfold orI
    by_cases h : c1 (f x) (f y) = 0
    · rw [if_pos h, h2.eq0]
      exact ⟨fun h' => hinj x y ((h1.eq0 _ _).1 h) h', fun h' => by rw [h']⟩
    · rw [if_neg h]
      exact ⟨fun h' => absurd h' h, fun h' => absurd ((h1.eq0 _ _).2 (by rw [h'])) h⟩
  anti x y := by
    rw [hc, hc, h1.anti (f x) (f y), h2.anti (g x) (g y)]; unfold orI
    by_cases h : c1 (f x) (f y) = 0
    · rw [if_pos h, if_pos (by omega)]
    · rw [if_neg h, if_neg (by omega)]
  trans x y z := by
    rw [hc, hc, hc]; unfold orI
    intro ha hb
    by_cases h : c1 (f x) (f y) = 0
    · rw [if_pos h] at ha
      rw [(h1.eq0 _ _).1 h]
      by_cases h' : c1 (f y) (f z) = 0
      · rw [if_pos h'] at hb ⊢
        exact h2.trans _ _ _ ha hb
      · rw [if_neg h'] at hb ⊢
        exact hb
    · rw [if_neg h] at ha
      by_cases h' : c1 (f y) (f z) = 0
      · rw [← (h1.eq0 _ _).1 h', if_neg h]
        exact ha
      · rw [if_neg h'] at hb
        have := h1.trans _ _ _ ha hb
        rw [if_neg (by omega)]
        exact this

theorem Pfx.ext' {p q : Pfx} (h1 : p.a.ver = q.a.ver) (h2 : p.a.bs = q.a.bs) (h3 : p.bits = q.bits) : p = q := by
  cases p with
  | mk a n =>
    cases q with
    | mk b m =>
      cases a; cases b
      simp_all

theorem compareP_is : IsCmp compareP := by
  let c' : (List UInt8 × Int) → (List UInt8 × Int) → Int := fun a b => orI (cmpB a.1 b.1) (cmpI a.2 b.2)
  have h' : IsCmp c' := cmpB_is.lex cmpI_is Prod.fst Prod.snd (fun _ _ => rfl) (fun x y h1 h2 => Prod.ext h1 h2)
  exact cmpI_is.lex h' (fun p : Pfx => p.a.ver) (fun p => (p.a.bs, p.bits)) (fun _ _ => rfl) (fun x y h1 h2 => by
    simp only [Prod.mk.injEq] at h2
    exact Pfx.ext' h1 h2.1 h2.2)

theorem IsCmp.swo {α : Type} {c : α → α → Int} (h : IsCmp c) : SWO (ltOf c) where
  irrefl x := by
    have := (h.eq0 x x).2 rfl
    unfold ltOf; simp [this]
  trans x y z h1 h2 := by
    unfold ltOf at *
    simp only [decide_eq_true_eq] at *
    exact h.trans x y z h1 h2
  ntrans x y z h1 h2 := by
    unfold ltOf at *
    simp only [decide_eq_false_iff_not, Int.not_lt] at *
    by_cases e1 : c x y = 0
    · rw [(h.eq0 _ _).1 e1]; exact h2
    · by_cases e2 : c y z = 0
      · rw [← (h.eq0 _ _).1 e2]; exact h1
      · have a1 := h.anti x y
        have a2 := h.anti y z
        have a3 := h.anti x z
        have := h.trans z y x (by omega) (by omega)
        omega
theorem IsCmp.tot {α : Type} {c : α → α → Int} (h : IsCmp c) (x y : α) (h1 : (ltOf c) x y = false) (h2 : (ltOf c) y x = false) : x = y := by
  unfold ltOf at *
  simp only [decide_eq_false_iff_not, Int.not_lt] at *
  have := h.anti x y
  exact (h.eq0 x y).1 (by omega)

end Go.Proofs.YtfdebdbmdbmbbaaDoor
