/- slices.SortFunc by prefix.Compare, slices.Concat, cover.one. -/
import Derived.Test.YtfdebdbmdbmbbaaDoorCovB
import Derived.Test.YtfdebdbmdbmbbaaDoorSortOwn
import Derived.Test.YtfdebdbmdbmbbaaDoorSortP
import Derived.Test.YtfdebdbmdbmbbaaDoorGrowP
import Derived.Test.YtfdebdbmdbmbbaaDoorOrder
import Derived.Deep.LoopGhost
set_option linter.unusedSimpArgs false
set_option linter.unusedVariables false
namespace Go.Proofs.YtfdebdbmdbmbbaaDoor
open Go.RowKit Go.Sort

def sortL (xs : List Pfx) : List Pfx := xs.mergeSort fun x y => !(ltOf compareP) y x

theorem compare_grow (p q : Pfx) (w : World) :
    Calls Tryd.prog 35 (#[.agg (encP p).toArray, .agg (encP q).toArray] ++ #[]) w fun e w' => e = .returned (.int .i64 (compareP p q)) ∧ ∃ n os, w' = grow (w.drewN n) os :=
  (compare_exact p q w).mono fun e w' ⟨he, o1, o2, o3, hw⟩ => ⟨he, 1, #[o1, o2, o3], by
    rw [← hw, alloc_eq_grow, alloc_eq_grow, alloc_eq_grow, drew_grow, drew_grow, grow_grow, grow_grow]
    rfl⟩

theorem sortP_own (base : Nat) (A : Option Addr) (n c : Nat) (xs : List Pfx) (w : World) (hn : xs.length = n) (hown : w.ownsRow base 35 18 (.slice A n c) n (flat encP xs)) (hsz : n < 4611686018427387904) :
    Calls Tryd.prog 34 #[.slice A n c, .func (.func 35) #[] #[]] w fun en w' => en = .returned (.tuple #[]) ∧ w'.ownsRow base 35 18 (.slice A n c) n (flat encP (sortL xs)) ∧ Below base w w' :=
  sort_own (P := Tryd.prog) (ρ := sortP_ren) sortP aggP.agg aggP.size encP_length (by omega) encP_one compareP compareP_is.swo compareP_is.tot 35 #[] base 35 A n c xs w
    (enters_of Tryd.func35 (by kernel_rfl) rfl) (fun W x y _ => compare_grow x y W) hn hown hsz

/-- A slice of prefixes, as it lies in a row of slices. -/
structure SRow where
  A : Option Addr
  c : Nat
  xs : List Pfx
def SRow.v (r : SRow) : Value := .slice r.A r.xs.length r.c
def SRow.ok (w : World) (r : SRow) : Prop := SlP w w.heap.size r.A r.xs ∧ (r.A = none → r.c = 0)
def catL (rs : List SRow) : List Pfx := rs.flatMap (·.xs)
theorem catL_snoc (rs : List SRow) (k : Nat) (r : SRow) (h : rs[k]? = some r) : catL (rs.take (k + 1)) = catL (rs.take k) ++ r.xs := by
  rw [List.take_add_one, h]; simp [catL]
theorem catL_le (rs : List SRow) (k : Nat) : (catL (rs.take k)).length ≤ (catL rs).length := by
  have h := congrArg catL (List.take_append_drop k rs)
  unfold catL at h ⊢
  rw [List.flatMap_append] at h
  rw [← h, List.length_append]
  omega

theorem le_grownCapP (w : World) (n c : Nat) (h : n ≤ 1000000) : n ≤ grownCap w n c 35 ∧ grownCap w n c 35 ≤ maxLen :=
  ⟨grownCap_ge w n c _, grownCap_le_maxLen w n c _ (by unfold maxLen; omega)⟩

theorem growNil_any (n : Nat) (w : World) (hn : n ≤ 1000000) :
    Calls Tryd.prog 44 #[.slice none 0 0, .int .i64 n] w fun e w' => ∃ A c, e = .returned (.slice A 0 c) ∧ w'.ownsRow w.heap.size 35 18 (.slice A 0 c) 0 [] ∧ Below w.heap.size w w' ∧ (A = none → c = 0) := by
  by_cases h0 : n = 0
  · subst h0
    exact (Any8.slices_Grow_room (P := Tryd.prog) (ρ := growP_ren) growP none 0 0 0 w (by omega) (by omega) (by omega) (by omega)).mono fun e w' ⟨he, hw⟩ => by
      subst hw
      exact ⟨none, 0, he, World.ownsRow_nil _ _ _ _, Below.refl _ _, fun _ => rfl⟩
  · obtain ⟨i, hi0, hi1, hi2, hi3⟩ := zeroValue_info (zvP w) infoP
    refine (Any8.slices_Grow_grow (P := Tryd.prog) (ρ := growP_ren) growP i _ hi0 hi1 (by omega) none 0 0 n [] w (by omega) (by omega) (by rw [hi3]; omega) (by omega) (by simp) (fun _ => rfl) (fun a h => by cases h)).mono fun e w' ⟨he, hw⟩ => ?_
    subst hw
    have hg := le_grownCapP w n 0 hn
    refine ⟨_, _, he, ⟨by simp, .inr ⟨w.heap.size, _, _, rfl, Nat.le_refl _, heap_alloc_new w.drew _, Nat.zero_le _, ?_, ?_, by simp⟩⟩, ((Below.refl _ _).drew).alloc (Nat.le_refl _) _, fun h => by cases h⟩
    · rw [Nat.zero_add]; exact hg.2
    · have := hg.1
      simp only [Array.size_append, size_zeroCells, Nat.zero_add, Nat.sub_zero, List.size_toArray, List.length_nil, Value.cells, encP_length]
      show n * 18 + (grownCap w n 0 35 - n) * 18 = grownCap w n 0 35 * 18
      omega

set_option maxRecDepth 100000 in
set_option maxHeartbeats 1000000 in
theorem concat_any (rs : List SRow) (Br cr n N : Nat) (w : World) (hB : Br < w.heap.size) (hn : n = rs.length) (hN : N = (catL rs).length) (hN1 : N ≤ 500000) (hn1 : n ≤ 1000)
    (hc : ∀ i r, rs[i]? = some r → w.cell? ⟨Br, i, none⟩ = some r.v) (hr : ∀ r ∈ rs, r.ok w) :
    Calls Tryd.prog 33 #[.slice (some ⟨Br, 0, none⟩) n cr] w fun e w' => ∃ A c, e = .returned (.slice A N c) ∧ w'.ownsRow w.heap.size 35 18 (.slice A N c) N (flat encP (catL rs)) ∧ Below w.heap.size w w' ∧ (A = none → c = 0) := by
  have Hn := Lib.hid hn
  have HN := Lib.hid hN
  have Hc := Lib.hid hc
  have Hr := Lib.hid hr
  have hle : ∀ k, (catL (rs.take k)).length ≤ N := fun k => by rw [hN]; exact catL_le rs k
  have Hle := Lib.hid hle
  clear hn hN hc hr hle
  go_enter Tryd.func33, Tryd.ntmps33
  go_wp2
  go_loop [3, 5, 11] (fun sz _ c => ∃ k : Nat, k ≤ n ∧ c = .int .i64 k ∧ sz = .int .i64 (catL (rs.take k)).length) (fun _ _ c => n - (intOf c).toNat)
  case atStart => exact ⟨0, by omega, rfl, by simp [catL]⟩
  case round =>
    obtain ⟨k, hk, rfl, rfl⟩ := hrel
    by_cases hlt : k < n
    · obtain ⟨r, hx⟩ : ∃ r, rs[k]? = some r := ⟨_, List.getElem?_eq_getElem (by have := Hn.out; omega)⟩
      have hcell := Hc.out k r hx
      unfold SRow.v at hcell
      have hs := catL_snoc rs k r hx
      have hl1 := Hle.out k
      have hl2 := Hle.out (k + 1)
      have hlen : (catL (rs.take (k + 1))).length = (catL (rs.take k)).length + r.xs.length := by rw [hs]; simp
      have Hlen := Lib.hid hlen
      rw [hlen] at hl2
      generalize (catL (rs.take k)).length = m at Hlen hl1 hl2 ⊢
      generalize r.xs.length = q at hcell Hlen hl2
      clear hs hlen hx
      go_wp2
      go_round
      case rel => exact ⟨k + 1, by omega, by go_num, by rw [Hlen.out]; go_num⟩
      case measure => simp [intOf]; omega
    · obtain rfl : k = n := by omega
      have e : (catL (rs.take k)).length = N := by rw [HN.out, List.take_of_length_le (by have := Hn.out; omega)]
      rw [e]
      clear e
      go_wp2_with ((go_at_call 44; refine (growNil_any _ _ (by omega)).mono ?_; rintro e w1 ⟨A0, c0, rfl, hown0, hb0, hA0⟩))
      have HB0 := Lib.hid hb0.size
      go_loopw [6, 8, 27] (fun v _ c wr => ∃ (j : Nat) (A : Option Addr) (cc m : Nat), j ≤ k ∧ c = .int .i64 j ∧ v = .slice A m cc ∧ Hid (m = (catL (rs.take j)).length) ∧ wr.ownsRow w.heap.size 35 18 (.slice A m cc) m (flat encP (catL (rs.take j))) ∧ Below w.heap.size w wr ∧ Hid (A = none → cc = 0)) (fun _ _ c _ => k - (intOf c).toNat)
      case atStart => exact ⟨0, A0, c0, 0, by omega, rfl, rfl, Lib.hid (by simp [catL]), by simpa [catL, flat] using hown0, hb0, Lib.hid hA0⟩
      case round =>
        obtain ⟨j, A, cc, m, hj, rfl, rfl, hm, hown, hbel, hA⟩ := hrel
        by_cases hjk : j < k
        · obtain ⟨r, hx⟩ : ∃ r, rs[j]? = some r := ⟨_, List.getElem?_eq_getElem (by have := Hn.out; omega)⟩
          have hcell := (hbel.cell (p := ⟨Br, j, none⟩) hB).trans (Hc.out j r hx)
          unfold SRow.v at hcell
          obtain ⟨hsl0, hA1⟩ := Hr.out r (List.mem_of_getElem? hx)
          have hsl := hsl0.below hbel (Nat.le_refl _)
          have hs := catL_snoc rs j r hx
          have hl2 := Hle.out (j + 1)
          have hlen : (catL (rs.take (j + 1))).length = m + r.xs.length := by rw [hs, hm.out]; simp
          rw [hlen] at hl2
          obtain ⟨q, hq⟩ : ∃ q, q = r.xs.length := ⟨_, rfl⟩
          rw [← hq] at hcell hl2 hlen
          have Hs := Lib.hid hs
          have Hlen := Lib.hid hlen
          have Hq := Lib.hid hq
          have HA1 := Lib.hid hA1
          have Hsl := Lib.hid hsl
          have Hown := Lib.hid hown
          clear hs hlen hq hA1 hx hsl hsl0 hown
          go_wp2_with ((at_builtin; refine appP rfl (.tmp 31) (.tmp 32) rfl w.heap.size (catL (rs.take j)) r.xs m q A cc rfl hm.out Hown.out w.heap.size r.A r.c rfl Hq.out Hsl.out HA1.out (by omega) hbel.size ?_; rintro A2 c2 w2 hown2 hb2 hA2))
          go_roundw
          case rel => exact ⟨j + 1, A2, c2, m + q, by omega, by go_num, rfl, Lib.hid Hlen.out.symm, by rw [Hs.out]; exact hown2, hbel.trans hb2, Lib.hid hA2⟩
          case measure => simp [intOf]; omega
        · obtain rfl : j = k := by omega
          have e : catL (rs.take j) = catL rs := by rw [List.take_of_length_le (by have := Hn.out; omega)]
          have hmN : m = N := by rw [hm.out, e, HN.out]
          rw [e] at hown
          subst hmN
          have Hown := Lib.hid hown
          clear hown e
          go_wp2
          go_ret
          exact ⟨A, cc, rfl, Hown.out, hbel, hA.out⟩

end Go.Proofs.YtfdebdbmdbmbbaaDoor
