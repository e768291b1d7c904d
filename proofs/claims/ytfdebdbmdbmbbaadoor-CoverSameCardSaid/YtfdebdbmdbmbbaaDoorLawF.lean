/- CoverSame: for whatever rows it says yes. -/
import Derived.Test.YtfdebdbmdbmbbaaDoorLawC
import Derived.Test.YtfdebdbmdbmbbaaDoorLawD
set_option linter.unusedSimpArgs false
set_option linter.unusedVariables false
namespace Go.Proofs.YtfdebdbmdbmbbaaDoor
open Go.RowKit

theorem formC {xs : List Pfx} {A : Option Addr} {n c : Nat} {w : World} (hgl : Glob w) (h : Row w A n c xs) (hc : n ≤ c) (hx : Canon xs) (hn : n ≤ 12) :
    Calls Tryd.prog 6 #[.slice A n c] w fun e w' => ∃ A' m c', e = .returned (.tuple #[.slice A' m c', .bool true]) ∧ Row w' A' m c' xs ∧ Below w.heap.size w w' := by
  have e : xs.take 12 = xs := List.take_of_length_le (by have := h.len; omega)
  refine (formOk_any xs A n c w h.len hc hgl h.sl h.nil (by rw [e]; exact hx.noWrong)).mono ?_
  rintro e' w' ⟨A', m, c', rfl, h1, h2, h3, h4, _⟩
  rw [e, one_id hx] at h1 h2
  exact ⟨A', m, c', rfl, ⟨h1, h2, h4⟩, h3⟩

set_option maxRecDepth 100000 in
set_option maxHeartbeats 4000000 in
theorem coverSame_any (xs ys : List Pfx) (A B : Option Addr) (n m c d : Nat) (w : World) (hgl : Glob w) (h : Row w A n c xs) (k : Row w B m d ys) (hc : n ≤ c) (hd : m ≤ d) :
    Calls Tryd.prog 4 #[.slice A n c, .slice B m d] w fun e w' => e = .returned (.bool true) ∧ Below w.heap.size w w' := by
  have cw := wakes_any w hgl
  have Hg := Lib.hid hgl
  have H1 := Lib.hid h
  have H2 := Lib.hid k
  have Hn := Lib.hid (And.intro hc hd)
  clear hgl h k hc hd
  go_enter Tryd.func4, Tryd.ntmps4
  go_wp2_with fail
  (with_reducible refine cw.mono ?_)
  clear cw
  rintro e w1 ⟨rfl, hb1⟩
  have cf := formK (Hg.out.below hb1) (H1.out.below hb1) Hn.out.1
  have Hb1 := Lib.hid hb1
  clear hb1
  go_wp2_with fail
  (with_reducible refine cf.mono ?_)
  clear cf
  rintro e w2 ⟨A1, n1, c1, r1, rfl, hb2, hr1⟩
  have hb2' := Hb1.out.trans (hb2.mono Hb1.out.size)
  have cf := formK (Hg.out.below hb2') (H2.out.below hb2') Hn.out.2
  have Hb2 := Lib.hid hb2'
  have Hr1 := Lib.hid hr1
  clear hb2 hb2' hr1 Hb1
  go_wp2_with fail
  (with_reducible refine cf.mono ?_)
  clear cf
  rintro e w3 ⟨A2, n2, c2, r2, rfl, hb3, hr2⟩
  have hb3' := Hb2.out.trans (hb3.mono Hb2.out.size)
  have Hb3 := Lib.hid hb3'
  have Hr2 := Lib.hid hr2
  have Hb23 := Lib.hid hb3
  clear hb3 hb3' hr2 Hb2
  cases r1
  · go_wp2
    go_ret
    exact ⟨rfl, Hb3.out⟩
  · cases r2
    · go_wp2
      go_ret
      exact ⟨rfl, Hb3.out⟩
    · obtain ⟨hok1, R1, hc1⟩ := Hr1.out rfl
      obtain ⟨hok2, R2, _⟩ := Hr2.out rfl
      have hca := (one_ok _ hok1).1
      have hcb := (one_ok _ hok2).1
      have hla := oneL_len (xs.take 12)
      have hlb := oneL_len (ys.take 12)
      rw [List.length_take] at hla hlb
      have RA := R1.below Hb23.out
      generalize oneL (xs.take 12) = a at RA hca hla R1
      generalize oneL (ys.take 12) = b at R2 hcb hlb
      have hn1 : n1 ≤ 12 := by rw [RA.len]; omega
      have hn2 : n2 ≤ 12 := by rw [R2.len]; omega
      have hal : a.length ≤ 12 := by omega
      have hbl : b.length ≤ 12 := by omega
      have hG3 := Hg.out.below Hb3.out
      have hle : decide ((n1 : Int) ≤ 12) = true := by simp; omega
      have hml := meetR_len a b
      have hml2 := meetR_len b a
      have hmm : a.length * b.length ≤ 12 * 12 := Nat.mul_le_mul hal hbl
      have hmm2 : b.length * a.length ≤ 12 * 12 := Nat.mul_le_mul hbl hal
      have hul := union_len a b
      obtain ⟨q1, hq1⟩ : ∃ r, decide (meetR a b = a) = r := ⟨_, rfl⟩
      obtain ⟨q2, hq2⟩ : ∃ r, decide (meetR b a = b) = r := ⟨_, rfl⟩
      have hq3 : decide (a = b) = (q1 && q2) := by
        have := same_both hca hcb
        rw [← hq1, ← hq2, ← Bool.decide_and]
        exact decide_eq_decide.2 this.symm
      have hq4 : decide (unionR a b = b) = q1 := by
        rw [← hq1]
        exact decide_eq_decide.2 (same_in hca hcb).symm
      have cf := formC hG3 RA hc1 hca hn1
      have Hq := Lib.hid (And.intro hq1 (And.intro hq2 (And.intro hq3 hq4)))
      have Hcs := Lib.hid (And.intro hca (And.intro hcb (And.intro (union_ok hca hcb).1 (same_union hca hcb))))
      have Hls := Lib.hid (show (meetR a b).length ≤ 144 ∧ (meetR b a).length ≤ 144 ∧ (unionR a b).length ≤ 24 from ⟨by omega, by omega, by omega⟩)
      have HR3 := Lib.hid (And.intro RA R2)
      clear hok1 hok2 R1 R2 RA hca hcb hla hlb hal hbl hml hml2 hmm hmm2 hul hG3 Hr1 Hr2 Hb23 hq1 hq2 hq3 hq4 hc1
      go_wp2_with fail
      (with_reducible refine cf.mono ?_)
      clear cf
      rintro e w4 ⟨A3, n3, c3, rfl, hR4, hb4⟩
      have hb4' := Hb3.out.trans (hb4.mono Hb3.out.size)
      have HR4 := Lib.hid (And.intro (HR3.out.1.below hb4) (HR3.out.2.below hb4))
      have hn3 : n3 = n1 := hR4.len.trans HR3.out.1.len.symm
      have ce := equalK hR4 HR4.out.1 (by omega) (by omega) true (by simp)
      have Hb4 := Lib.hid hb4'
      clear hb4 hb4' hR4 HR3 Hb3 hn3
      go_wp2_with fail
      (with_reducible refine ce.mono ?_)
      clear ce
      rintro e w5 ⟨rfl, hb5⟩
      have hb5' := Hb4.out.trans (hb5.mono Hb4.out.size)
      have HR5 := Lib.hid (And.intro (HR4.out.1.below hb5) (HR4.out.2.below hb5))
      have ce := withinK (Hg.out.below hb5') HR5.out.1 HR5.out.2 Hcs.out.1 Hcs.out.2.1 (by omega) (by omega) (by have := Hls.out.1; omega) q1 Hq.out.1
      have Hb5 := Lib.hid hb5'
      clear hb5 hb5' HR4 Hb4
      go_wp2_with fail
      (with_reducible refine ce.mono ?_)
      clear ce
      rintro e w6 ⟨rfl, hb6⟩
      have hb6' := Hb5.out.trans (hb6.mono Hb5.out.size)
      have HR6 := Lib.hid (And.intro (HR5.out.1.below hb6) (HR5.out.2.below hb6))
      have ce := withinK (Hg.out.below hb6') HR6.out.2 HR6.out.1 Hcs.out.2.1 Hcs.out.1 (by omega) (by omega) (by have := Hls.out.2.1; omega) q2 Hq.out.2.1
      have Hb6 := Lib.hid hb6'
      clear hb6 hb6' HR5 Hb5
      go_wp2_with fail
      (with_reducible refine ce.mono ?_)
      clear ce
      rintro e w7 ⟨rfl, hb7⟩
      have hb7' := Hb6.out.trans (hb7.mono Hb6.out.size)
      have HR7 := Lib.hid (And.intro (HR6.out.1.below hb7) (HR6.out.2.below hb7))
      have ce := unionK (Hg.out.below hb7') HR7.out.1 HR7.out.2 Hcs.out.1 Hcs.out.2.1 (by omega) (by omega) _ rfl (by have := Hls.out.2.2; omega)
      have Hb7 := Lib.hid hb7'
      clear hb7 hb7' HR6 Hb6
      go_wp2_with fail
      (with_reducible refine ce.mono ?_)
      clear ce
      rintro e w8 ⟨A5, n5, c5, rfl, hR8, hb8⟩
      have hb8' := Hb7.out.trans (hb8.mono Hb7.out.size)
      have HR8 := Lib.hid (And.intro (HR7.out.1.below hb8) (And.intro (HR7.out.2.below hb8) hR8))
      have ce := unionK (Hg.out.below hb8') HR8.out.2.1 HR8.out.1 Hcs.out.2.1 Hcs.out.1 (by omega) (by omega) (unionR a b) Hcs.out.2.2.2.symm (by have := Hls.out.2.2; omega)
      have hn5 : n5 ≤ 24 := by rw [hR8.len]; exact Hls.out.2.2
      have Hb8 := Lib.hid hb8'
      clear hb8 hb8' HR7 Hb7 hR8
      go_wp2_with fail
      (with_reducible refine ce.mono ?_)
      clear ce
      rintro e w9 ⟨A6, n6, c6, rfl, hR9, hb9⟩
      have hb9' := Hb8.out.trans (hb9.mono Hb8.out.size)
      have HR9 := Lib.hid (And.intro (HR8.out.1.below hb9) (And.intro (HR8.out.2.1.below hb9) (And.intro (HR8.out.2.2.below hb9) hR9)))
      have ce := equalK HR9.out.1 HR9.out.2.1 (by omega) (by omega) (q1 && q2) Hq.out.2.2.1
      have hn6 : n6 ≤ 24 := by rw [hR9.len]; exact Hls.out.2.2
      have Hb9 := Lib.hid hb9'
      clear hb9 hb9' HR8 Hb8 hR9
      cases q1
      all_goals cases q2
      all_goals (
        go_wp2_with fail
        (with_reducible refine ce.mono ?_)
        clear ce
        rintro e w10 ⟨rfl, hb10⟩
        have hb10' := Hb9.out.trans (hb10.mono Hb9.out.size)
        have HR10 := Lib.hid (And.intro (HR9.out.1.below hb10) (And.intro (HR9.out.2.1.below hb10) (And.intro (HR9.out.2.2.1.below hb10) (HR9.out.2.2.2.below hb10))))
        have ce := equalK HR10.out.2.2.1 HR10.out.2.2.2 (by omega) (by omega) true (by simp)
        have Hb10 := Lib.hid hb10'
        clear hb10 hb10' HR9 Hb9
        go_wp2_with fail
        (with_reducible refine ce.mono ?_)
        clear ce
        rintro e w11 ⟨rfl, hb11⟩
        have hb11' := Hb10.out.trans (hb11.mono Hb10.out.size)
        have ce := equalK (HR10.out.2.2.1.below hb11) (HR10.out.2.1.below hb11) (by omega) (by omega) _ Hq.out.2.2.2
        have Hb11 := Lib.hid hb11'
        clear hb11 hb11' HR10 Hb10
        go_wp2_with fail
        (with_reducible refine ce.mono ?_)
        clear ce
        rintro e w12 ⟨rfl, hb12⟩
        have Hf := Lib.hid (Hb11.out.trans (hb12.mono Hb11.out.size))
        clear hb12
        go_wp2
        go_ret
        exact ⟨rfl, Hf.out⟩)
end Go.Proofs.YtfdebdbmdbmbbaaDoor
