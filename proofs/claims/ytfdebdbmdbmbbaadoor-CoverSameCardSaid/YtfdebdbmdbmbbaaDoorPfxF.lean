/- The walks of prefix.Holds, prefix.Of. -/
import Derived.Test.YtfdebdbmdbmbbaaDoorPfxE
set_option linter.unusedSimpArgs false
set_option linter.unusedVariables false
namespace Go.Proofs.YtfdebdbmdbmbbaaDoor
open Go.RowKit

/-- What comes of a function's frame whose result is an aggregate in memory. -/
theorem bodyPost_agg {P : Program} {fn : Func} {R : Ending → World → Prop} {a : Act} {w : World} {t : TypeId} {n : Nat} {p : Tmp} {b : Nat} (A : AggTy P t n) (hr : fn.results = #[.cell p t]) (hp : a.tmps.getD p undef = .pointer (some ⟨b, 0, none⟩)) (hd : a.defers = [])
    (l : List Value) (hl : rowAt w b 0 n = some l) (hR : R (.returned (.agg l.toArray)) w) : bodyPost P fn R .ret a w := by
  have h := run_loadVar_rowAt A w b 0 (by rw [hl]; rfl)
  simp only [gotRow, hl, Option.getD_some] at h
  refine bodyPost_ret (v := .agg l.toArray) ?_ hd hR
  have hp' : a.tmps[p]?.getD undef = .pointer (some ⟨b, 0, none⟩) := by simpa using hp
  simp [results, hr, hp', asAddr, h]
/-- .. and a second result in a slot. -/
theorem bodyPost_agg_tmp {P : Program} {fn : Func} {R : Ending → World → Prop} {a : Act} {w : World} {t : TypeId} {n : Nat} {p q : Tmp} {b : Nat} (A : AggTy P t n) (hr : fn.results = #[.cell p t, .tmp q]) (hp : a.tmps.getD p undef = .pointer (some ⟨b, 0, none⟩)) (hd : a.defers = [])
    (l : List Value) (hl : rowAt w b 0 n = some l) (v : Value) (hv : a.tmps.getD q undef = v) (hR : R (.returned (.tuple #[.agg l.toArray, v])) w) : bodyPost P fn R .ret a w := by
  have h := run_loadVar_rowAt A w b 0 (by rw [hl]; rfl)
  simp only [gotRow, hl, Option.getD_some] at h
  refine bodyPost_ret (v := .tuple #[.agg l.toArray, v]) ?_ hd hR
  have hp' : a.tmps[p]?.getD undef = .pointer (some ⟨b, 0, none⟩) := by simpa using hp
  have hv' : a.tmps[q]?.getD undef = v := by simpa using hv
  simp [results, hr, hp', hv', asAddr, h]

set_option maxRecDepth 100000 in
set_option maxHeartbeats 1000000 in
theorem holds_any (p q : Pfx) (w : World) (hg : Glob w) :
    Calls Tryd.prog 19 #[.agg (encP p).toArray, .agg (encP q).toArray] w fun e w' => e = .returned (.bool (holdsP p q)) ∧ Below w.heap.size w w' := by
  have G : ∀ o1 o2, Glob ((w.alloc o1).alloc o2) := fun o1 o2 => (hg.alloc o1).alloc o2
  have cq := fun o1 o2 => Calls.to_gw (check_any q _ (G o1 o2))
  have ch := fun o1 o2 d os => Calls.next_gw (has_any p q.a _ ((G o1 o2).gw d os))
  have hh : holdsP p q = (okP q && decide (p.bits ≤ q.bits) && hasP p q.a) := rfl
  rw [hh]
  clear hg G hh
  cases hq : okP q
  · rw [show errP q = 151 by unfold errP; simp [hq]] at cq
    simp only [Bool.false_and]
    clear hq ch
    go_enter Tryd.func19, Tryd.ntmps19
    go_wp2_with ((go_at_call 28; refine (cq _ _).mono ?_; rintro e w' ⟨rfl, d, os, rfl⟩))
    go_ret
    (refine ⟨rfl, ?_⟩; repeat (first | with_reducible exact Below.refl _ _ | with_reducible assumption | with_reducible refine below_gw' ?_ (by simp [gw_size] <;> omega) _ _ | with_reducible refine Below.alloc ?_ (by simp [gw_size] <;> omega) _ | with_reducible refine Below.drew ?_ | with_reducible refine below_setCells ?_ _ _ _ (by simp [gw_size] <;> omega)))
  · rw [show errP q = 0 by unfold errP; simp [hq]] at cq
    simp only [Bool.true_and]
    by_cases hb : p.bits ≤ q.bits
    · have hb' : decide (p.bits ≤ q.bits) = true := by simpa using hb
      simp only [hb', Bool.true_and]
      generalize hasP p q.a = r at ch ⊢
      clear hq hb
      go_enter Tryd.func19, Tryd.ntmps19
      go_wp2_with (first | (go_at_call 28; refine (cq _ _).mono ?_; rintro e w' ⟨rfl, d, os, rfl⟩) | (go_at_call 29; refine (ch _ _ _ _).mono ?_; rintro e w' ⟨rfl, d2, os2, rfl⟩))
      go_ret
      (refine ⟨rfl, ?_⟩; repeat (first | with_reducible exact Below.refl _ _ | with_reducible assumption | with_reducible refine below_gw' ?_ (by simp [gw_size] <;> omega) _ _ | with_reducible refine Below.alloc ?_ (by simp [gw_size] <;> omega) _ | with_reducible refine Below.drew ?_ | with_reducible refine below_setCells ?_ _ _ _ (by simp [gw_size] <;> omega)))
    · have hb' : decide (p.bits ≤ q.bits) = false := by simpa using hb
      simp only [hb', Bool.false_and]
      clear hq hb ch
      go_enter Tryd.func19, Tryd.ntmps19
      go_wp2_with ((go_at_call 28; refine (cq _ _).mono ?_; rintro e w' ⟨rfl, d, os, rfl⟩))
      go_ret
      (refine ⟨rfl, ?_⟩; repeat (first | with_reducible exact Below.refl _ _ | with_reducible assumption | with_reducible refine below_gw' ?_ (by simp [gw_size] <;> omega) _ _ | with_reducible refine Below.alloc ?_ (by simp [gw_size] <;> omega) _ | with_reducible refine Below.drew ?_ | with_reducible refine below_setCells ?_ _ _ _ (by simp [gw_size] <;> omega)))

set_option maxRecDepth 100000 in
set_option maxHeartbeats 1000000 in
theorem of_any (a : Adr) (n : Int) (w : World) (hg : Glob w) :
    Calls Tryd.prog 50 #[.agg (encA a).toArray, .int .i64 n] w fun e w' => e = .returned (.tuple #[.agg (encP (ofP a n).1).toArray, .int .i64 (ofP a n).2]) ∧ Below w.heap.size w w' := by
  have G : ∀ o1 o2, Glob ((w.alloc o1).alloc o2) := fun o1 o2 => (hg.alloc o1).alloc o2
  have ca := fun o1 o2 => Calls.to_gw (checkAddr_any a _ (G o1 o2))
  have cw := fun o1 o2 d os => width_any a.ver _ ((G o1 o2).gw d os)
  clear hg G
  cases ha : okA a
  · rw [ha] at ca
    simp only [Bool.false_eq_true, if_false] at ca
    have hf : ofP a n = (pfx0, 150) := by unfold ofP; simp [ha]
    rw [hf]
    clear ha hf cw
    go_enter Tryd.func50, Tryd.ntmps50
    go_wp2_with ((go_at_call 38; refine (ca _ _).mono ?_; rintro e w' ⟨rfl, d, os, rfl⟩))
    refine bodyPost_agg_tmp (b := w.heap.size + 1) aggP Tryd.results50 (by rfl) (by rfl) (encP pfx0) (by simp [go_sem]) _ (by rfl) ?_
    (refine ⟨rfl, ?_⟩; repeat (first | with_reducible exact Below.refl _ _ | with_reducible assumption | with_reducible refine below_gw' ?_ (by simp [gw_size] <;> omega) _ _ | with_reducible refine Below.alloc ?_ (by simp [gw_size] <;> omega) _ | with_reducible refine Below.drew ?_ | with_reducible refine below_setCells ?_ _ _ _ (by simp [gw_size] <;> omega)))
  · rw [ha] at ca
    simp only [if_true] at ca
    by_cases h0 : n < 0
    · have hf : ofP a n = (pfx0, 2) := by unfold ofP; rw [if_pos ha, if_neg (by omega)]
      rw [hf]
      clear ha hf cw
      go_enter Tryd.func50, Tryd.ntmps50
      go_wp2_with ((go_at_call 38; refine (ca _ _).mono ?_; rintro e w' ⟨rfl, d, os, rfl⟩))
      refine bodyPost_agg_tmp (b := w.heap.size + 1) aggP Tryd.results50 (by rfl) (by rfl) (encP pfx0) (by simp [go_sem]) _ (by rfl) ?_
      (refine ⟨rfl, ?_⟩; repeat (first | with_reducible exact Below.refl _ _ | with_reducible assumption | with_reducible refine below_gw' ?_ (by simp [gw_size] <;> omega) _ _ | with_reducible refine Below.alloc ?_ (by simp [gw_size] <;> omega) _ | with_reducible refine Below.drew ?_ | with_reducible refine below_setCells ?_ _ _ _ (by simp [gw_size] <;> omega)))
    · by_cases h1 : width a.ver < n
      · have hf : ofP a n = (pfx0, 2) := by unfold ofP; rw [if_pos ha, if_neg (by omega)]
        rw [hf]
        generalize width a.ver = wd at cw h1
        have h1' : decide (wd < n) = true := by simpa using h1
        clear ha hf
        go_enter Tryd.func50, Tryd.ntmps50
        go_wp2_with (first | (go_at_call 38; refine (ca _ _).mono ?_; rintro e w' ⟨rfl, d, os, rfl⟩) | (go_at_call 39; refine (cw _ _ _ _).mono ?_; rintro e w' ⟨rfl, rfl⟩))
        refine bodyPost_agg_tmp (b := w.heap.size + 1) aggP Tryd.results50 (by rfl) (by rfl) (encP pfx0) (by simp [go_sem]) _ (by rfl) ?_
        (refine ⟨rfl, ?_⟩; repeat (first | with_reducible exact Below.refl _ _ | with_reducible assumption | with_reducible refine below_gw' ?_ (by simp [gw_size] <;> omega) _ _ | with_reducible refine Below.alloc ?_ (by simp [gw_size] <;> omega) _ | with_reducible refine Below.drew ?_ | with_reducible refine below_setCells ?_ _ _ _ (by simp [gw_size] <;> omega)))
      · have hw := width_bd a.ver
        have cc := fun W => cut_any a.bs a.len n W (by omega) (by omega)
        obtain ⟨cb, hcb⟩ : ∃ cb, cutL a.bs n = cb := ⟨_, rfl⟩
        have hl : cb.length = 16 := by rw [← hcb]; exact cutL_length _ _
        have hf : ofP a n = (⟨⟨a.ver, cb, hl⟩, n⟩, 0) := by subst hcb; unfold ofP; rw [if_pos ha, if_pos (by omega)]
        rw [hf]
        have He : encP ⟨⟨a.ver, cb, hl⟩, n⟩ = Value.int .i64 a.ver :: (encB cb ++ [.int .i64 n]) := rfl
        rw [He]
        rw [hcb] at cc
        clear He hf hcb
        have hrow : ∀ d os, rowAt ((gw ((w.alloc (.cells (encA a).toArray 33)).alloc (.cells (encP pfx0).toArray 35)) d os).setCells w.heap.size 1 (encB cb)) w.heap.size 0 17 = some (Value.int .i64 a.ver :: encB cb) := fun d os => by simp [go_sem, hl]
        generalize width a.ver = wd at cw h1 hw
        have h1' : decide (wd < n) = false := by simpa using h1
        obtain ⟨hw0, hw1⟩ := hw
        have cc := fun W => Calls.to_gw (cc W)
        clear ha
        go_enter Tryd.func50, Tryd.ntmps50
        go_wp2_with (first | (go_at_call 38; refine (ca _ _).mono ?_; rintro e w' ⟨rfl, d, os, rfl⟩) | (go_at_call 39; refine (cw _ _ _ _).mono ?_; rintro e w' ⟨rfl, rfl⟩) | (go_at_call 41; refine (cc _).mono ?_; rintro e w' ⟨rfl, d2, os2, rfl⟩))
        refine bodyPost_agg_tmp (b := w.heap.size + 1) aggP Tryd.results50 (by rfl) (by rfl) (Value.int .i64 a.ver :: (encB cb ++ [.int .i64 n])) (by simp [go_sem, hl]) _ (by rfl) ?_
        (refine ⟨rfl, ?_⟩; repeat (first | with_reducible exact Below.refl _ _ | with_reducible assumption | with_reducible refine below_gw' ?_ (by simp [gw_size] <;> omega) _ _ | with_reducible refine Below.alloc ?_ (by simp [gw_size] <;> omega) _ | with_reducible refine Below.drew ?_ | with_reducible refine below_setCells ?_ _ _ _ (by simp [gw_size] <;> omega)))

end Go.Proofs.YtfdebdbmdbmbbaaDoor
