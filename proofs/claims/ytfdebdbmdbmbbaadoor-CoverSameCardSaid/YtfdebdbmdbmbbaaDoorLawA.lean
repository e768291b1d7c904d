/- The statements' own helper four, the reference's Same: by contract. -/
import Derived.Test.YtfdebdbmdbmbbaaDoorSetC
set_option linter.unusedSimpArgs false
set_option linter.unusedVariables false
namespace Go.Proofs.YtfdebdbmdbmbbaaDoor
open Go.RowKit

set_option maxRecDepth 100000 in
set_option maxHeartbeats 1000000 in
theorem same_any (xs ys : List Pfx) (A1 A2 : Option Addr) (c1 c2 : Nat) (w : World) (h1 : SlP w w.heap.size A1 xs) (h2 : SlP w w.heap.size A2 ys) (hm1 : xs.length < 4611686018427387904) (hm2 : ys.length < 4611686018427387904) :
    Calls Tryd.prog 15 #[.slice A1 xs.length c1, .slice A2 ys.length c2] w fun e w' => e = .returned (.bool (decide (xs = ys))) ∧ Below w.heap.size w w' := by
  by_cases hl : xs.length = ys.length
  · obtain ⟨n, hn⟩ : ∃ n, n = ys.length := ⟨_, rfl⟩
    rw [← hn] at hl hm2
    rw [hl, ← hn]
    have Hx := Lib.hid hl
    have Hy := Lib.hid hn
    have H1 := Lib.hid h1
    have H2 := Lib.hid h2
    clear hl hn h1 h2 hm1
    have hne : ((n : Int) != n) = false := by simp
    go_enter Tryd.func15, Tryd.ntmps15
    go_wp2
    go_loopw [13] (fun c wr => ∃ k : Nat, k ≤ n ∧ c = .int .i64 k ∧ xs.take k = ys.take k ∧ ∃ d os, wr = gw w d os) (fun c _ => n - (intOf c).toNat)
    case atStart => exact ⟨0, by omega, rfl, by simp, w.drawn, #[], by simp [gw]⟩
    case round =>
      obtain ⟨k, hk, rfl, ht, d, os, rfl⟩ := hrel
      have Ht := Lib.hid ht
      clear ht
      by_cases hlt : k < n
      · obtain ⟨x, hx⟩ : ∃ x, xs[k]? = some x := ⟨_, List.getElem?_eq_getElem (by have := Hx.out; omega)⟩
        obtain ⟨y, hy⟩ : ∃ y, ys[k]? = some y := ⟨_, List.getElem?_eq_getElem (by have := Hy.out; omega)⟩
        obtain ⟨b1, o1, rfl, hb1, hr1⟩ := H1.out.get hx
        obtain ⟨b2, o2, rfl, hb2, hr2⟩ := H2.out.get hy
        have HX := Lib.hid hx
        have HY := Lib.hid hy
        clear hx hy
        by_cases hxy : x = y
        · have hd : decide (x = y) = true := by simpa using hxy
          have Hd := Lib.hid hxy
          clear hxy
          go_wp2
          refine wp_region_gw (by kernel_rfl) (by kernel_rfl) ?_
          repeat (go_big_quiet_step (fail))
          refine wpQuiet_nil ?_
          intro dq osq
          go_wp2
          go_roundw
          case rel => exact ⟨k + 1, by omega, by go_num, take_eq_succ HX.out HY.out Ht.out Hd.out, _, _, rfl⟩
          case measure => simp [intOf]; omega
        · have hd : decide (x = y) = false := by simpa using hxy
          have Hf : Hid (decide (xs = ys) = false) := by
            refine Lib.hid ?_
            rw [decide_eq_false_iff_not]
            rintro rfl
            exact hxy (Option.some.inj (HX.out.symm.trans HY.out))
          clear hxy
          go_wp2
          refine wp_region_gw (by kernel_rfl) (by kernel_rfl) ?_
          repeat (go_big_quiet_step (fail))
          refine wpQuiet_nil ?_
          intro dq osq
          go_wp2
          go_ret
          refine ⟨ret_bool Hf.out.symm, ?_⟩
          repeat (first | with_reducible exact Below.refl _ _ | with_reducible assumption | with_reducible refine below_gw' ?_ (by simp [gw_size] <;> omega) _ _ | with_reducible refine Below.alloc ?_ (by simp [gw_size] <;> omega) _ | with_reducible refine Below.drew ?_ | with_reducible refine below_setCells ?_ _ _ _ (by simp [gw_size] <;> omega))
      · obtain rfl : k = n := by omega
        have Hf : Hid (decide (xs = ys) = true) := by
          refine Lib.hid ?_
          have h := Ht.out
          rw [List.take_of_length_le (by have := Hx.out; omega), List.take_of_length_le (by have := Hy.out; omega)] at h
          simpa using h
        go_wp2
        go_ret
        refine ⟨ret_bool Hf.out.symm, ?_⟩
        repeat (first | with_reducible exact Below.refl _ _ | with_reducible assumption | with_reducible refine below_gw' ?_ (by simp [gw_size] <;> omega) _ _ | with_reducible refine Below.alloc ?_ (by simp [gw_size] <;> omega) _ | with_reducible refine Below.drew ?_ | with_reducible refine below_setCells ?_ _ _ _ (by simp [gw_size] <;> omega))
  · have hf : decide (xs = ys) = false := by
      rw [decide_eq_false_iff_not]; rintro rfl; exact hl rfl
    rw [hf]
    have hne : ((xs.length : Int) != ys.length) = true := by rw [bne_iff_ne]; omega
    generalize xs.length = n at hne hm1
    generalize ys.length = m at hne hm2
    clear hf hl h1 h2
    go_enter Tryd.func15, Tryd.ntmps15
    go_wp2
    go_ret
    (refine ⟨rfl, ?_⟩; repeat (first | with_reducible exact Below.refl _ _ | with_reducible assumption | with_reducible refine below_gw' ?_ (by simp [gw_size] <;> omega) _ _ | with_reducible refine Below.alloc ?_ (by simp [gw_size] <;> omega) _ | with_reducible refine Below.drew ?_ | with_reducible refine below_setCells ?_ _ _ _ (by simp [gw_size] <;> omega)))

def adr4 : Adr := ⟨4, List.replicate 16 0, rfl⟩
theorem bldkA4 (w : World) : (Instr.build 33 #[(0, .int .i64 4)]).run Tryd.prog w = .ok (.agg (encA adr4).toArray) w := by kernel_rfl
def fourP (a b : UInt8) (n : Int) : Pfx := ⟨⟨4, a :: b :: List.replicate 14 0, rfl⟩, n⟩
set_option maxRecDepth 100000 in
set_option maxHeartbeats 1000000 in
theorem four_any (a b : UInt8) (n : Int) (w : World) :
    Calls Tryd.prog 14 #[.int .u8 (a.toNat : Int), .int .u8 (b.toNat : Int), .int .i64 n] w fun e w' => e = .returned (.agg (encP (fourP a b n)).toArray) ∧ Below w.heap.size w w' := by
  have hbA := bldkA4
  go_enter Tryd.func14, Tryd.ntmps14
  go_wp2
  refine bodyPost_agg (b := w.heap.size) aggP Tryd.results14 (by rfl) (by rfl) (encP (fourP a b n)) ?_ ?_
  · simp [go_sem]
    rfl
  · refine ⟨rfl, ?_⟩
    repeat (first | with_reducible exact Below.refl _ _ | with_reducible assumption | with_reducible refine below_gw' ?_ (by simp [gw_size] <;> omega) _ _ | with_reducible refine Below.alloc ?_ (by simp [gw_size] <;> omega) _ | with_reducible refine Below.drew ?_ | with_reducible refine below_setCells ?_ _ _ _ (by simp [gw_size] <;> omega))

end Go.Proofs.YtfdebdbmdbmbbaaDoor
