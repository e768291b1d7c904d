/- CoverParts: for whatever rows it says yes. -/
import Derived.Test.YtfdebdbmdbmbbaaDoorLawC
import Derived.Test.YtfdebdbmdbmbbaaDoorLawD
namespace Go.Proofs.YtfdebdbmdbmbbaaDoor
open Go.RowKit

set_option maxRecDepth 100000 in
set_option maxHeartbeats 4000000 in
theorem coverParts_any (xs ys : List Pfx) (A B : Option Addr) (n m c d : Nat) (w : World) (hgl : Glob w) (h : Row w A n c xs) (k : Row w B m d ys) (hc : n ≤ c) (hd : m ≤ d) :
    Calls Tryd.prog 3 #[.slice A n c, .slice B m d] w fun e w' => e = .returned (.bool true) ∧ Below w.heap.size w w' := by
  have cw := wakes_any w hgl
  have Hg := Lib.hid hgl
  have H1 := Lib.hid h
  have H2 := Lib.hid k
  have Hn := Lib.hid (And.intro hc hd)
  clear hgl h k hc hd
  go_enter Tryd.func3, Tryd.ntmps3
  go_wp2_with fail
  (with_reducible refine cw.mono ?_)
  clear cw
  rintro e w1 ⟨rfl, hb1⟩
  have cf := formK (Hg.out.below hb1) (H1.out.below hb1) Hn.out.1
  have Hb1 := Lib.hid hb1
  clear hb1
  go_wp2_with fail
  (with_reducible refine cf.mono ?_)
  clear cf
  rintro e w2 ⟨A1, n1, c1, r1, rfl, hb2, hr1⟩
  have hb2' := Hb1.out.trans (hb2.mono Hb1.out.size)
  have cf := formK (Hg.out.below hb2') (H2.out.below hb2') Hn.out.2
  have Hb2 := Lib.hid hb2'
  have Hr1 := Lib.hid hr1
  clear hb2 hb2' hr1 Hb1
  go_wp2_with fail
  (with_reducible refine cf.mono ?_)
  clear cf
  rintro e w3 ⟨A2, n2, c2, r2, rfl, hb3, hr2⟩
  have hb3' := Hb2.out.trans (hb3.mono Hb2.out.size)
  have Hb3 := Lib.hid hb3'
  have Hr2 := Lib.hid hr2
  have Hb23 := Lib.hid hb3
  clear hb3 hb3' hr2 Hb2
  cases r1
  · go_wp2
    go_ret
    exact ⟨rfl, Hb3.out⟩
  · cases r2
    · go_wp2
      go_ret
      exact ⟨rfl, Hb3.out⟩
    · obtain ⟨hok1, R1⟩ := Hr1.out rfl
      obtain ⟨hok2, R2⟩ := Hr2.out rfl
      have hca := (one_ok _ hok1).1
      have hcb := (one_ok _ hok2).1
      have hla := oneL_len (xs.take 12)
      have hlb := oneL_len (ys.take 12)
      rw [List.length_take] at hla hlb
      have RA := R1.below Hb23.out
      generalize oneL (xs.take 12) = a at RA hca hla R1
      generalize oneL (ys.take 12) = b at R2 hcb hlb
      have hn1 : n1 ≤ 12 := by rw [RA.len]; omega
      have hn2 : n2 ≤ 12 := by rw [R2.len]; omega
      have hal : a.length ≤ 12 := by omega
      have hbl : b.length ≤ 12 := by omega
      have hml := meetR_len a b
      have hml2 : a.length * b.length ≤ 12 * 12 := Nat.mul_le_mul hal hbl
      have hG3 := Hg.out.below Hb3.out
      have hcm := (meetR_ok hca hcb).1
      have hcd := (minusR_ok hca hcb).1
      have cm := meetK hG3 RA R2 hca hcb (by omega) (by omega) _ rfl (by omega)
      have Hcs := Lib.hid (And.intro hca (And.intro hcb (And.intro hcm hcd)))
      have Hls := Lib.hid (And.intro hal (And.intro hbl (show (meetR a b).length ≤ 144 by omega)))
      have HR3 := Lib.hid (And.intro RA R2)
      clear hok1 hok2 R1 R2 RA hca hcb hla hlb hal hbl hml hml2 hG3 Hr1 Hr2 Hb23 hcm hcd
      go_wp2_with fail
      (with_reducible refine cm.mono ?_)
      clear cm
      rintro e w4 ⟨A3, n3, c3, rfl, hR4, hb4⟩
      have hb4' := Hb3.out.trans (hb4.mono Hb3.out.size)
      have hmul : n1 * (1 + 129 * n2) ≤ 12 * (1 + 129 * 12) := Nat.mul_le_mul hn1 (by omega)
      have cd := minusK (Hg.out.below hb4') (HR3.out.1.below hb4) (HR3.out.2.below hb4) Hcs.out.1 Hcs.out.2.1 (by omega) (by omega) (by omega)
      have hn3 : n3 ≤ 144 := by rw [hR4.len]; exact Hls.out.2.2
      have HR4 := Lib.hid (And.intro (HR3.out.1.below hb4) (And.intro (HR3.out.2.below hb4) hR4))
      have Hb4 := Lib.hid hb4'
      clear hb4 hb4' hmul hR4 HR3 Hb3
      go_wp2_with fail
      (with_reducible refine cd.mono ?_)
      clear cd
      rintro e w5 (⟨rfl, hb5⟩ | ⟨A4, n4, c4, rfl, hR5, hn4, hb5⟩)
      · have Hf := Lib.hid (Hb4.out.trans (hb5.mono Hb4.out.size))
        clear hb5
        go_wp2
        go_ret
        exact ⟨rfl, Hf.out⟩
      · have hb5' := Hb4.out.trans (hb5.mono Hb4.out.size)
        have HR5 := Lib.hid (And.intro (HR4.out.1.below hb5) (And.intro (HR4.out.2.1.below hb5) (And.intro (HR4.out.2.2.below hb5) hR5)))
        have cc := checkK (Hg.out.below hb5') HR5.out.2.2.1 Hcs.out.2.2.1 (by omega)
        have Hb5 := Lib.hid hb5'
        clear hb5 hb5' hR5 HR4 Hb4
        go_wp2_with fail
        (with_reducible refine cc.mono ?_)
        clear cc
        rintro e w6 ⟨rfl, hb6⟩
        have hb6' := Hb5.out.trans (hb6.mono Hb5.out.size)
        have HR6 := Lib.hid (And.intro (HR5.out.1.below hb6) (And.intro (HR5.out.2.1.below hb6) (And.intro (HR5.out.2.2.1.below hb6) (HR5.out.2.2.2.below hb6))))
        have cc := checkK (Hg.out.below hb6') HR6.out.2.2.2 Hcs.out.2.2.2 (by omega)
        have Hb6 := Lib.hid hb6'
        clear hb6 hb6' HR5 Hb5
        go_wp2_with fail
        (with_reducible refine cc.mono ?_)
        clear cc
        rintro e w7 ⟨rfl, hb7⟩
        have hb7' := Hb6.out.trans (hb7.mono Hb6.out.size)
        have HR7 := Lib.hid (And.intro (HR6.out.1.below hb7) (And.intro (HR6.out.2.1.below hb7) (And.intro (HR6.out.2.2.1.below hb7) (HR6.out.2.2.2.below hb7))))
        have cu := unionK (Hg.out.below hb7') HR7.out.2.2.1 HR7.out.2.2.2 Hcs.out.2.2.1 Hcs.out.2.2.2 (by omega) (by omega) a (parts_all Hcs.out.1 Hcs.out.2.1) (by have := Hls.out.1; omega)
        have Hb7 := Lib.hid hb7'
        clear hb7 hb7' HR6 Hb6
        go_wp2_with fail
        (with_reducible refine cu.mono ?_)
        clear cu
        rintro e w8 ⟨A5, n5, c5, rfl, hR8, hb8⟩
        have hb8' := Hb7.out.trans (hb8.mono Hb7.out.size)
        have HR8 := Lib.hid (And.intro (HR7.out.1.below hb8) (And.intro (HR7.out.2.1.below hb8) (And.intro (HR7.out.2.2.1.below hb8) (HR7.out.2.2.2.below hb8))))
        have cu := meetK (Hg.out.below hb8') HR8.out.2.2.1 HR8.out.2.2.2 Hcs.out.2.2.1 Hcs.out.2.2.2 (by omega) (by omega) [] (parts_both Hcs.out.1 Hcs.out.2.1) (by simp)
        have Hb8 := Lib.hid hb8'
        have HR8a := Lib.hid hR8
        clear hb8 hb8' HR7 Hb7 hR8
        go_wp2_with fail
        (with_reducible refine cu.mono ?_)
        clear cu
        rintro e w9 ⟨A6, n6, c6, rfl, hR9, hb9⟩
        obtain rfl : n6 = 0 := hR9.len
        have hb9' := Hb8.out.trans (hb9.mono Hb8.out.size)
        have HR9 := Lib.hid (And.intro (HR8.out.1.below hb9) (And.intro (HR8.out.2.1.below hb9) (And.intro (HR8.out.2.2.1.below hb9) (HR8.out.2.2.2.below hb9))))
        have HR9a := Lib.hid (HR8a.out.below hb9)
        have cu := meetK (Hg.out.below hb9') HR9.out.2.2.2 HR9.out.2.1 Hcs.out.2.2.2 Hcs.out.2.1 (by omega) (by omega) [] (parts_none Hcs.out.1 Hcs.out.2.1) (by simp)
        have Hb9 := Lib.hid hb9'
        clear hb9 hb9' HR8 Hb8 hR9 HR8a
        go_wp2_with fail
        (with_reducible refine cu.mono ?_)
        clear cu
        rintro e w10 ⟨A7, n7, c7, rfl, hR10, hb10⟩
        obtain rfl : n7 = 0 := hR10.len
        have hb10' := Hb9.out.trans (hb10.mono Hb9.out.size)
        have HR10 := Lib.hid (And.intro (HR9.out.1.below hb10) (And.intro (HR9.out.2.1.below hb10) (And.intro (HR9.out.2.2.1.below hb10) (HR9.out.2.2.2.below hb10))))
        have cu := equalK (HR9a.out.below hb10) HR10.out.1 (by have := HR9a.out.len; have := Hls.out.1; omega) (by omega) true (by simp)
        have Hb10 := Lib.hid hb10'
        clear hb10 hb10' HR9 Hb9 hR10 HR9a
        go_wp2_with fail
        (with_reducible refine cu.mono ?_)
        clear cu
        rintro e w11 ⟨rfl, hb11⟩
        have hb11' := Hb10.out.trans (hb11.mono Hb10.out.size)
        have HR11 := Lib.hid (And.intro (HR10.out.1.below hb11) (And.intro (HR10.out.2.1.below hb11) (And.intro (HR10.out.2.2.1.below hb11) (HR10.out.2.2.2.below hb11))))
        have cu := withinK (Hg.out.below hb11') HR11.out.2.2.1 HR11.out.2.1 Hcs.out.2.2.1 Hcs.out.2.1 (by omega) (by omega) (by rw [parts_in Hcs.out.1 Hcs.out.2.1, ← HR11.out.2.2.1.len]; omega) true (by rw [parts_in Hcs.out.1 Hcs.out.2.1]; simp)
        have Hb11 := Lib.hid hb11'
        clear hb11 hb11' HR10 Hb10
        go_wp2_with fail
        (with_reducible refine cu.mono ?_)
        clear cu
        rintro e w12 ⟨rfl, hb12⟩
        have hb12' := Hb11.out.trans (hb12.mono Hb11.out.size)
        have HR12 := Lib.hid (And.intro (HR11.out.1.below hb12) (And.intro (HR11.out.2.1.below hb12) (And.intro (HR11.out.2.2.1.below hb12) (HR11.out.2.2.2.below hb12))))
        have cu := withinK (Hg.out.below hb12') HR12.out.2.2.2 HR12.out.1 Hcs.out.2.2.2 Hcs.out.1 (by omega) (by omega) (by rw [parts_left Hcs.out.1 Hcs.out.2.1, ← HR12.out.2.2.2.len]; omega) true (by rw [parts_left Hcs.out.1 Hcs.out.2.1]; simp)
        have Hb12 := Lib.hid hb12'
        clear hb12 hb12' HR11 Hb11
        go_wp2_with fail
        (with_reducible refine cu.mono ?_)
        clear cu
        rintro e w13 ⟨rfl, hb13⟩
        have Hf := Lib.hid (Hb12.out.trans (hb13.mono Hb12.out.size))
        clear hb13
        go_wp2
        go_ret
        exact ⟨rfl, Hf.out⟩
end Go.Proofs.YtfdebdbmdbmbbaaDoor
