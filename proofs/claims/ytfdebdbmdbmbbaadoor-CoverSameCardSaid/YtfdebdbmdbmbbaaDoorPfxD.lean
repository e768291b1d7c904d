/- The walks of prefix.Has, Holds. -/
import Derived.Test.YtfdebdbmdbmbbaaDoorPfxC
import Derived.Test.YtfdebdbmdbmbbaaDoorEq
set_option linter.unusedSimpArgs false
set_option linter.unusedVariables false
namespace Go.Proofs.YtfdebdbmdbmbbaaDoor
open Go.RowKit

set_option maxRecDepth 100000 in
set_option maxHeartbeats 1000000 in
theorem has_any (p : Pfx) (a : Adr) (w : World) (hg : Glob w) :
    Calls Tryd.prog 29 #[.agg (encP p).toArray, .agg (encA a).toArray] w fun e w' => e = .returned (.bool (hasP p a)) ∧ Below w.heap.size w w' := by
  have G : ∀ o1 o2, Glob ((w.alloc o1).alloc o2) := fun o1 o2 => (hg.alloc o1).alloc o2
  have cp := fun o1 o2 => Calls.to_gw (check_any p _ (G o1 o2))
  have ca := fun o1 o2 d os => Calls.next_gw (checkAddr_any a _ ((G o1 o2).gw d os))
  have hh : hasP p a = (okP p && okA a && decide (p.a.ver = a.ver) && decide (cutL a.bs p.bits = p.a.bs)) := rfl
  clear hg G
  cases hp : okP p
  · have e : errP p = 151 := by unfold errP; simp [hp]
    have hf : hasP p a = false := by rw [hh, hp]; rfl
    rw [hf]
    rw [e] at cp
    clear hh hp e hf ca
    go_enter Tryd.func29, Tryd.ntmps29
    go_wp2_with (go_at_call 28; refine (cp _ _).mono ?_; rintro e w' ⟨rfl, d, os, rfl⟩)
    go_ret
    (refine ⟨rfl, ?_⟩; repeat (first | with_reducible exact Below.refl _ _ | with_reducible assumption | with_reducible refine below_gw' ?_ (by simp [gw_size] <;> omega) _ _ | with_reducible refine Below.alloc ?_ (by simp [gw_size] <;> omega) _ | with_reducible refine Below.drew ?_ | with_reducible refine below_setCells ?_ _ _ _ (by simp [gw_size] <;> omega)))
  · have e : errP p = 0 := by unfold errP; simp [hp]
    rw [e] at cp
    cases haa : okA a
    · have hf : hasP p a = false := by rw [hh, haa]; simp
      rw [hf]
      rw [haa] at ca
      simp only [Bool.false_eq_true, if_false] at ca
      clear hh hp e hf haa
      go_enter Tryd.func29, Tryd.ntmps29
      go_wp2_with (first
        | (go_at_call 28; refine (cp _ _).mono ?_; rintro e w' ⟨rfl, d, os, rfl⟩)
        | (go_at_call 38; refine (ca _ _ _ _).mono ?_; rintro e w' ⟨rfl, d2, os2, rfl⟩))
      go_ret
      (refine ⟨rfl, ?_⟩; repeat (first | with_reducible exact Below.refl _ _ | with_reducible assumption | with_reducible refine below_gw' ?_ (by simp [gw_size] <;> omega) _ _ | with_reducible refine Below.alloc ?_ (by simp [gw_size] <;> omega) _ | with_reducible refine Below.drew ?_ | with_reducible refine below_setCells ?_ _ _ _ (by simp [gw_size] <;> omega)))
    · rw [haa] at ca
      simp only [if_true] at ca
      by_cases hv : p.a.ver = a.ver
      · have hb : 0 ≤ p.bits ∧ p.bits ≤ 128 := by
          have h1 := hp
          unfold okP at h1
          simp only [Bool.and_eq_true, decide_eq_true_eq] at h1
          have := width_bd p.a.ver
          omega
        have cc := fun W => cut_any a.bs a.len p.bits W hb.1 hb.2
        have hf : hasP p a = decide (cutL a.bs p.bits = p.a.bs) := by rw [hh, hp, haa]; simp [hv]
        rw [hf]
        have hl1 := cutL_length a.bs p.bits
        have hl2 := p.a.len
        have hv' : (p.a.ver != a.ver) = false := by simpa using hv
        generalize cutL a.bs p.bits = cb at cc hl1
        clear hh hp e hf haa hb hv
        go_enter Tryd.func29, Tryd.ntmps29
        go_wp2_with (first
          | (go_at_call 28; refine (cp _ _).mono ?_; rintro e w' ⟨rfl, d, os, rfl⟩)
          | (go_at_call 38; refine (ca _ _ _ _).mono ?_; rintro e w' ⟨rfl, d2, os2, rfl⟩))
        refine wp_region_gw (by kernel_rfl) (by kernel_rfl) ?_
        repeat (go_big_quiet_step ((go_at_call 41; exact Calls.in_gw2 (cc _))))
        refine wpQuiet_nil ?_
        intro dq osq
        go_wp2
        go_ret
        (refine ⟨rfl, ?_⟩; repeat (first | with_reducible exact Below.refl _ _ | with_reducible assumption | with_reducible refine below_gw' ?_ (by simp [gw_size] <;> omega) _ _ | with_reducible refine Below.alloc ?_ (by simp [gw_size] <;> omega) _ | with_reducible refine Below.drew ?_ | with_reducible refine below_setCells ?_ _ _ _ (by simp [gw_size] <;> omega)))
      · have hf : hasP p a = false := by rw [hh]; simp [hv]
        rw [hf]
        have hv' : (p.a.ver != a.ver) = true := by simpa using hv
        clear hh hp e hf haa hv
        go_enter Tryd.func29, Tryd.ntmps29
        go_wp2_with (first
          | (go_at_call 28; refine (cp _ _).mono ?_; rintro e w' ⟨rfl, d, os, rfl⟩)
          | (go_at_call 38; refine (ca _ _ _ _).mono ?_; rintro e w' ⟨rfl, d2, os2, rfl⟩))
        go_ret
        (refine ⟨rfl, ?_⟩; repeat (first | with_reducible exact Below.refl _ _ | with_reducible assumption | with_reducible refine below_gw' ?_ (by simp [gw_size] <;> omega) _ _ | with_reducible refine Below.alloc ?_ (by simp [gw_size] <;> omega) _ | with_reducible refine Below.drew ?_ | with_reducible refine below_setCells ?_ _ _ _ (by simp [gw_size] <;> omega)))

end Go.Proofs.YtfdebdbmdbmbbaaDoor
