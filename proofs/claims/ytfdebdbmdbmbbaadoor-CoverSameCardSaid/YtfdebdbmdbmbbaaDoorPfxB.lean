/- The walks of package prefix: Check, cut. -/
import Derived.Test.YtfdebdbmdbmbbaaDoorPfxA
set_option linter.unusedSimpArgs false
set_option linter.unusedVariables false
namespace Go.Proofs.YtfdebdbmdbmbbaaDoor
open Go.RowKit

def errP (p : Pfx) : Int := if okP p = true then 0 else 151

set_option maxRecDepth 100000 in
set_option maxHeartbeats 1000000 in
theorem check_any (p : Pfx) (w : World) (hg : Glob w) :
    Calls Tryd.prog 28 #[.agg (encP p).toArray] w fun e w' => e = .returned (.int .i64 (errP p)) ∧ Below w.heap.size w w' := by
  have hw := width_bd p.a.ver
  have hg0 := fun o => hg.alloc o
  have ca := fun o d os => checkAddr_any p.a _ ((hg0 o).gw d os)
  have cw := fun o d os => width_any p.a.ver _ ((hg0 o).gw d os)
  have hok : okP p = (okA p.a && decide (0 ≤ p.bits) && decide (p.bits ≤ width p.a.ver) && clearL p.a.bs p.bits.toNat) := rfl
  clear hg
  cases ha : okA p.a
  · rw [ha] at ca hok
    simp only [Bool.false_eq_true, if_false] at ca
    have hf : errP p = 151 := by unfold errP; rw [hok]; simp
    rw [hf]
    clear hok hf hg0 ha cw hw
    go_enter Tryd.func28, Tryd.ntmps28
    go_wp2
    refine wp_region_gw (by kernel_rfl) (by kernel_rfl) ?_
    repeat (go_big_quiet_step ((first | (go_at_call 38; exact Calls.in_gw (ca _ _ _)))))
    refine wpQuiet_nil ?_
    intro d1 os1
    go_wp2
    go_ret
    exact ⟨rfl, below_gw' ((Below.refl _ _).alloc (Nat.le_refl _) _) (by simp) _ _⟩
  · rw [ha] at ca hok
    simp only [if_true] at ca
    by_cases hb : p.bits < 0
    · have hf : errP p = 151 := by unfold errP; rw [hok]; simp [show ¬ 0 ≤ p.bits by omega]
      rw [hf]
      have hb' : decide (p.bits < 0) = true := by simp; omega
      clear hok hf hg0 ha cw hw hb
      go_enter Tryd.func28, Tryd.ntmps28
      go_wp2
      refine wp_region_gw (by kernel_rfl) (by kernel_rfl) ?_
      repeat (go_big_quiet_step ((first | (go_at_call 38; exact Calls.in_gw (ca _ _ _)))))
      refine wpQuiet_nil ?_
      intro d1 os1
      go_wp2
      go_ret
      exact ⟨rfl, below_gw' ((Below.refl _ _).alloc (Nat.le_refl _) _) (by simp) _ _⟩
    · have hb' : decide (p.bits < 0) = false := by simp; omega
      by_cases hc : width p.a.ver < p.bits
      · have hf : errP p = 151 := by unfold errP; rw [hok]; simp [show ¬ p.bits ≤ width p.a.ver by omega]
        rw [hf]
        generalize width p.a.ver = wd at cw hc hw
        have hc' : decide (wd < p.bits) = true := by simp; omega
        clear hok hf hg0 ha hw hb hc
        go_enter Tryd.func28, Tryd.ntmps28
        go_wp2
        refine wp_region_gw (by kernel_rfl) (by kernel_rfl) ?_
        repeat (go_big_quiet_step ((first | (go_at_call 38; exact Calls.in_gw (ca _ _ _)) | (go_at_call 39; exact Calls.in_gw_same (cw _ _ _)))))
        refine wpQuiet_nil ?_
        intro d1 os1
        go_wp2
        go_ret
        exact ⟨rfl, below_gw' ((Below.refl _ _).alloc (Nat.le_refl _) _) (by simp) _ _⟩
      · have cc := fun W => clear_any p.a.bs p.a.len p.bits W (by omega) (by omega)
        have hf : errP p = if clearL p.a.bs p.bits.toNat = true then 0 else 151 := by
          unfold errP; rw [hok]; simp [show 0 ≤ p.bits by omega, show p.bits ≤ width p.a.ver by omega]
        rw [hf]
        generalize clearL p.a.bs p.bits.toNat = r at cc
        generalize width p.a.ver = wd at cw hc hw
        have hc' : decide (wd < p.bits) = false := by simp; omega
        clear hok hf hg0 ha hb hc hw
        cases r
        · go_enter Tryd.func28, Tryd.ntmps28
          go_wp2
          refine wp_region_gw (by kernel_rfl) (by kernel_rfl) ?_
          repeat (go_big_quiet_step ((first | (go_at_call 38; exact Calls.in_gw (ca _ _ _)) | (go_at_call 39; exact Calls.in_gw_same (cw _ _ _)) | (go_at_call 40; exact Calls.in_gw (cc _)))))
          refine wpQuiet_nil ?_
          intro d1 os1
          go_wp2
          go_ret
          exact ⟨rfl, below_gw' ((Below.refl _ _).alloc (Nat.le_refl _) _) (by simp) _ _⟩
        · go_enter Tryd.func28, Tryd.ntmps28
          go_wp2
          refine wp_region_gw (by kernel_rfl) (by kernel_rfl) ?_
          repeat (go_big_quiet_step ((first | (go_at_call 38; exact Calls.in_gw (ca _ _ _)) | (go_at_call 39; exact Calls.in_gw_same (cw _ _ _)) | (go_at_call 40; exact Calls.in_gw (cc _)))))
          refine wpQuiet_nil ?_
          intro d1 os1
          go_wp2
          go_ret
          exact ⟨rfl, below_gw' ((Below.refl _ _).alloc (Nat.le_refl _) _) (by simp) _ _⟩

end Go.Proofs.YtfdebdbmdbmbbaaDoor
