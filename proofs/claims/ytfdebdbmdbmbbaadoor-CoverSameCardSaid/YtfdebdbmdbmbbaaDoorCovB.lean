/- The walks of slices.Equal, slices.IndexFunc, slices.ContainsFunc at prefixes, cover.wrong. -/
import Derived.Test.YtfdebdbmdbmbbaaDoorCovA
import Derived.Test.YtfdebdbmdbmbbaaDoorSlice
set_option linter.unusedSimpArgs false
set_option linter.unusedVariables false
namespace Go.Proofs.YtfdebdbmdbmbbaaDoor
open Go.RowKit

abbrev SlP := SlR encP 18

theorem take_eq_succ {α : Type} {xs ys : List α} {k : Nat} {x y : α} (hx : xs[k]? = some x) (hy : ys[k]? = some y) (h : xs.take k = ys.take k) (hxy : x = y) : xs.take (k + 1) = ys.take (k + 1) := by
  rw [List.take_add_one, List.take_add_one, hx, hy, h, hxy]

set_option maxRecDepth 100000 in
set_option maxHeartbeats 1000000 in
theorem equal_any (xs ys : List Pfx) (A1 A2 : Option Addr) (c1 c2 : Nat) (w : World) (h1 : SlP w w.heap.size A1 xs) (h2 : SlP w w.heap.size A2 ys) (hm1 : xs.length < 4611686018427387904) (hm2 : ys.length < 4611686018427387904) :
    Calls Tryd.prog 11 #[.slice A1 xs.length c1, .slice A2 ys.length c2] w fun e w' => e = .returned (.bool (decide (xs = ys))) ∧ Below w.heap.size w w' := by
  by_cases hl : xs.length = ys.length
  · obtain ⟨n, hn⟩ : ∃ n, n = ys.length := ⟨_, rfl⟩
    rw [← hn] at hl hm2
    rw [hl, ← hn]
    have Hx := Lib.hid hl
    have Hy := Lib.hid hn
    have H1 := Lib.hid h1
    have H2 := Lib.hid h2
    clear hl hn h1 h2 hm1
    have hne : ((n : Int) != n) = false := by simp
    go_enter Tryd.func11, Tryd.ntmps11
    go_wp2
    go_loopw [5, 13] (fun _ c wr => ∃ k : Nat, k ≤ n ∧ c = .int .i64 k ∧ xs.take k = ys.take k ∧ ∃ d os, wr = gw w d os) (fun _ c _ => n - (intOf c).toNat)
    case atStart => exact ⟨0, by omega, rfl, by simp, w.drawn, #[], by simp [gw]⟩
    case round =>
      obtain ⟨k, hk, rfl, ht, d, os, rfl⟩ := hrel
      have Ht := Lib.hid ht
      clear ht
      by_cases hlt : k < n
      · obtain ⟨x, hx⟩ : ∃ x, xs[k]? = some x := ⟨_, List.getElem?_eq_getElem (by have := Hx.out; omega)⟩
        obtain ⟨y, hy⟩ : ∃ y, ys[k]? = some y := ⟨_, List.getElem?_eq_getElem (by have := Hy.out; omega)⟩
        obtain ⟨b1, o1, rfl, hb1, hr1⟩ := H1.out.get hx
        obtain ⟨b2, o2, rfl, hb2, hr2⟩ := H2.out.get hy
        have HX := Lib.hid hx
        have HY := Lib.hid hy
        clear hx hy
        by_cases hxy : x = y
        · have hd : decide (x = y) = true := by simpa using hxy
          have Hd := Lib.hid hxy
          clear hxy
          go_wp2
          refine wp_region_gw (by kernel_rfl) (by kernel_rfl) ?_
          repeat (go_big_quiet_step (fail))
          refine wpQuiet_nil ?_
          intro dq osq
          go_wp2
          go_roundw
          case rel => exact ⟨k + 1, by omega, by go_num, take_eq_succ HX.out HY.out Ht.out Hd.out, _, _, rfl⟩
          case measure => simp [intOf]; omega
        · have hd : decide (x = y) = false := by simpa using hxy
          have Hf : Hid (decide (xs = ys) = false) := by
            refine Lib.hid ?_
            rw [decide_eq_false_iff_not]
            rintro rfl
            exact hxy (Option.some.inj (HX.out.symm.trans HY.out))
          clear hxy
          go_wp2
          refine wp_region_gw (by kernel_rfl) (by kernel_rfl) ?_
          repeat (go_big_quiet_step (fail))
          refine wpQuiet_nil ?_
          intro dq osq
          go_wp2
          go_ret
          refine ⟨ret_bool Hf.out.symm, ?_⟩
          repeat (first | with_reducible exact Below.refl _ _ | with_reducible assumption | with_reducible refine below_gw' ?_ (by simp [gw_size] <;> omega) _ _ | with_reducible refine Below.alloc ?_ (by simp [gw_size] <;> omega) _ | with_reducible refine Below.drew ?_ | with_reducible refine below_setCells ?_ _ _ _ (by simp [gw_size] <;> omega))
      · obtain rfl : k = n := by omega
        have Hf : Hid (decide (xs = ys) = true) := by
          refine Lib.hid ?_
          have h := Ht.out
          rw [List.take_of_length_le (by have := Hx.out; omega), List.take_of_length_le (by have := Hy.out; omega)] at h
          simpa using h
        go_wp2
        go_ret
        refine ⟨ret_bool Hf.out.symm, ?_⟩
        repeat (first | with_reducible exact Below.refl _ _ | with_reducible assumption | with_reducible refine below_gw' ?_ (by simp [gw_size] <;> omega) _ _ | with_reducible refine Below.alloc ?_ (by simp [gw_size] <;> omega) _ | with_reducible refine Below.drew ?_ | with_reducible refine below_setCells ?_ _ _ _ (by simp [gw_size] <;> omega))
  · have hf : decide (xs = ys) = false := by
      rw [decide_eq_false_iff_not]; rintro rfl; exact hl rfl
    rw [hf]
    have hne : ((xs.length : Int) != ys.length) = true := by rw [bne_iff_ne]; omega
    generalize xs.length = n at hne hm1
    generalize ys.length = m at hne hm2
    clear hf hl h1 h2
    go_enter Tryd.func11, Tryd.ntmps11
    go_wp2
    go_ret
    (refine ⟨rfl, ?_⟩; repeat (first | with_reducible exact Below.refl _ _ | with_reducible assumption | with_reducible refine below_gw' ?_ (by simp [gw_size] <;> omega) _ _ | with_reducible refine Below.alloc ?_ (by simp [gw_size] <;> omega) _ | with_reducible refine Below.drew ?_ | with_reducible refine below_setCells ?_ _ _ _ (by simp [gw_size] <;> omega)))

/-- Where a list first meets p; -1: nowhere. -/
def firstI {α : Type} (p : α → Bool) : List α → Int
  | [] => -1
  | x :: xs => if p x = true then 0 else (if firstI p xs < 0 then -1 else firstI p xs + 1)
theorem firstI_bd {α : Type} (p : α → Bool) : ∀ xs : List α, -1 ≤ firstI p xs ∧ firstI p xs < xs.length
  | [] => by simp [firstI]
  | x :: xs => by
    have := firstI_bd p xs
    simp only [firstI, List.length_cons]
    split
    · omega
    · split <;> omega
theorem firstI_any {α : Type} (p : α → Bool) : ∀ xs : List α, decide (0 ≤ firstI p xs) = xs.any p
  | [] => by simp [firstI]
  | x :: xs => by
    have ih := firstI_any p xs
    have hb := firstI_bd p xs
    simp only [firstI, List.any_cons]
    by_cases h : p x = true
    · simp [h]
    · simp only [h, if_false, Bool.false_or]
      rw [← ih]
      by_cases h2 : firstI p xs < 0
      · rw [if_pos h2]; simp; omega
      · rw [if_neg h2]; simp; omega
theorem firstI_at {α : Type} (p : α → Bool) : ∀ (xs : List α) (k : Nat) (x : α), xs[k]? = some x → p x = true → (∀ j y, j < k → xs[j]? = some y → p y = false) → firstI p xs = k
  | y :: xs, 0, x, hx, hp, _ => by simp at hx; subst hx; simp [firstI, hp]
  | y :: xs, k + 1, x, hx, hp, hn => by
    have h0 := hn 0 y (by omega) rfl
    have ih := firstI_at p xs k x (by simpa using hx) hp (fun j z hj hz => hn (j + 1) z (by omega) (by simpa using hz))
    simp only [firstI, h0, Bool.false_eq_true, if_false, ih]
    rw [if_neg (by omega)]; omega
theorem firstI_none {α : Type} (p : α → Bool) : ∀ xs : List α, (∀ (j : Nat) (y : α), xs[j]? = some y → p y = false) → firstI p xs = -1
  | [], _ => rfl
  | x :: xs, h => by
    have h0 := h 0 x rfl
    have ih := firstI_none p xs (fun j y hy => h (j + 1) y (by simpa using hy))
    simp [firstI, h0, ih]

set_option maxRecDepth 100000 in
set_option maxHeartbeats 400000 in
theorem wrong1_any (p : Pfx) (w : World) (hg : Glob w) : Calls Tryd.prog 32 #[.agg (encP p).toArray] w fun e w' => e = .returned (.bool (!okP p)) ∧ Below w.heap.size w w' := by
  have cp := fun o1 => Calls.to_gw (check_any p _ (hg.alloc o1))
  cases hp : okP p
  · rw [show errP p = 151 by unfold errP; simp [hp]] at cp
    clear hp
    go_enter Tryd.func32, Tryd.ntmps32
    go_wp2_with ((go_at_call 28; refine (cp _).mono ?_; rintro e w' ⟨rfl, d, os, rfl⟩))
    go_ret
    (refine ⟨rfl, ?_⟩; repeat (first | with_reducible exact Below.refl _ _ | with_reducible assumption | with_reducible refine below_gw' ?_ (by simp [gw_size] <;> omega) _ _ | with_reducible refine Below.alloc ?_ (by simp [gw_size] <;> omega) _ | with_reducible refine Below.drew ?_ | with_reducible refine below_setCells ?_ _ _ _ (by simp [gw_size] <;> omega)))
  · rw [show errP p = 0 by unfold errP; simp [hp]] at cp
    clear hp
    go_enter Tryd.func32, Tryd.ntmps32
    go_wp2_with ((go_at_call 28; refine (cp _).mono ?_; rintro e w' ⟨rfl, d, os, rfl⟩))
    go_ret
    (refine ⟨rfl, ?_⟩; repeat (first | with_reducible exact Below.refl _ _ | with_reducible assumption | with_reducible refine below_gw' ?_ (by simp [gw_size] <;> omega) _ _ | with_reducible refine Below.alloc ?_ (by simp [gw_size] <;> omega) _ | with_reducible refine Below.drew ?_ | with_reducible refine below_setCells ?_ _ _ _ (by simp [gw_size] <;> omega)))

set_option maxRecDepth 100000 in
set_option maxHeartbeats 1000000 in
theorem indexWrong_any (xs : List Pfx) (A : Option Addr) (c : Nat) (w : World) (hg : Glob w) (h1 : SlP w w.heap.size A xs) (hm1 : xs.length < 4611686018427387904) :
    Calls Tryd.prog 43 #[.slice A xs.length c, .func (.func 32) #[] #[]] w fun e w' => e = .returned (.int .i64 (firstI (fun p => !okP p) xs)) ∧ Below w.heap.size w w' := by
  have cw := fun x d os => Calls.next_gw (wrong1_any x _ (hg.gw d os))
  obtain ⟨n, hn⟩ : ∃ n, n = xs.length := ⟨_, rfl⟩
  rw [← hn] at hm1 ⊢
  have Hn := Lib.hid hn
  have H1 := Lib.hid h1
  clear hn h1 hg
  go_enter Tryd.func43, Tryd.ntmps43
  go_wp2
  go_loopw [5, 8] (fun _ c wr => ∃ k : Nat, k ≤ n ∧ c = .int .i64 k ∧ (∀ j y, j < k → xs[j]? = some y → (!okP y) = false) ∧ ∃ d os, wr = gw w d os) (fun _ c _ => n - (intOf c).toNat)
  case atStart => exact ⟨0, by omega, rfl, fun j y hj => by omega, w.drawn, #[], by simp [gw]⟩
  case round =>
    obtain ⟨k, hk, rfl, ht, d, os, rfl⟩ := hrel
    have Ht := Lib.hid ht
    clear ht
    by_cases hlt : k < n
    · obtain ⟨x, hx⟩ : ∃ x, xs[k]? = some x := ⟨_, List.getElem?_eq_getElem (by have := Hn.out; omega)⟩
      obtain ⟨b1, o1, rfl, hb1, hr1⟩ := H1.out.get hx
      have HX := Lib.hid hx
      clear hx
      have cx := cw x
      have Cw := Lib.hid cw
      clear cw
      cases hb : okP x
      · rw [hb] at cx
        have Hf := Lib.hid (firstI_at (fun p => !okP p) xs k x HX.out (by simp [hb]) Ht.out)
        clear hb
        go_wp2_with ((go_at_call 32; refine (cx _ _).mono ?_; rintro e w' ⟨rfl, d2, os2, rfl⟩))
        go_ret
        refine ⟨ret_int Hf.out.symm, ?_⟩
        repeat (first | with_reducible exact Below.refl _ _ | with_reducible assumption | with_reducible refine below_gw' ?_ (by simp [gw_size] <;> omega) _ _ | with_reducible refine Below.alloc ?_ (by simp [gw_size] <;> omega) _ | with_reducible refine Below.drew ?_ | with_reducible refine below_setCells ?_ _ _ _ (by simp [gw_size] <;> omega))
      · rw [hb] at cx
        have Hb := Lib.hid hb
        clear hb
        go_wp2_with ((go_at_call 32; refine (cx _ _).mono ?_; rintro e w' ⟨rfl, d2, os2, rfl⟩))
        go_roundw
        case rel => exact ⟨k + 1, by omega, by go_num, fun j y hj hy => by
          rcases Nat.lt_or_ge j k with h | h
          · exact Ht.out j y h hy
          · rw [show j = k by omega, HX.out] at hy
            cases hy
            rw [Hb.out]; rfl, _, _, rfl⟩
        case measure => simp [intOf]; omega
    · obtain rfl : k = n := by omega
      have Hf := Lib.hid (firstI_none (fun p => !okP p) xs (fun j y hy => Ht.out j y (by have := (List.getElem?_eq_some_iff.1 hy).1; have := Hn.out; omega) hy))
      go_wp2
      go_ret
      refine ⟨ret_int Hf.out.symm, ?_⟩
      repeat (first | with_reducible exact Below.refl _ _ | with_reducible assumption | with_reducible refine below_gw' ?_ (by simp [gw_size] <;> omega) _ _ | with_reducible refine Below.alloc ?_ (by simp [gw_size] <;> omega) _ | with_reducible refine Below.drew ?_ | with_reducible refine below_setCells ?_ _ _ _ (by simp [gw_size] <;> omega))

set_option maxRecDepth 100000 in
set_option maxHeartbeats 1000000 in
theorem wrong_any (xs : List Pfx) (A : Option Addr) (c : Nat) (w : World) (hg : Glob w) (h1 : SlP w w.heap.size A xs) (hm1 : xs.length < 4611686018427387904) :
    Calls Tryd.prog 23 #[.slice A xs.length c] w fun e w' => e = .returned (.bool (xs.any fun p => !okP p)) ∧ Below w.heap.size w w' := by
  have ci := Calls.to_gw (indexWrong_any xs A c w hg h1 hm1)
  have he := firstI_any (fun p => !okP p) xs
  generalize xs.any (fun p => !okP p) = r at he ⊢
  generalize firstI (fun p => !okP p) xs = i at ci he
  generalize xs.length = n at ci hm1 ⊢
  clear h1 hg
  go_enter Tryd.func23, Tryd.ntmps23
  go_wp2_with (first | (go_at_call 31; go_in) | ((go_at_call 43; refine ci.mono ?_; rintro e w' ⟨rfl, d, os, rfl⟩)))
  go_ret
  (refine ⟨rfl, ?_⟩; repeat (first | with_reducible exact Below.refl _ _ | with_reducible assumption | with_reducible refine below_gw' ?_ (by simp [gw_size] <;> omega) _ _ | with_reducible refine Below.alloc ?_ (by simp [gw_size] <;> omega) _ | with_reducible refine Below.drew ?_ | with_reducible refine below_setCells ?_ _ _ _ (by simp [gw_size] <;> omega)))

end Go.Proofs.YtfdebdbmdbmbbaaDoor
