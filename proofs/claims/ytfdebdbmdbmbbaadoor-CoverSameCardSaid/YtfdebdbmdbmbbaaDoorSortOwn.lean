/- slices.SortFunc on a row of the call's own, elements of k cells: between the library's two vocabularies. -/
import Derived.Test.YtfdebdbmdbmbbaaDoorSlice
import Derived.Shelf.SlSortCmp.NoneTotal
set_option linter.unusedSimpArgs false
set_option linter.unusedVariables false
namespace Go.Proofs.YtfdebdbmdbmbbaaDoor
open Go.RowKit Go.Shelf Go.Lib Go.Sort
section
variable {α : Type} [Inhabited α] {enc : α → List Value} {k : Nat}

theorem flatK_eq (hk : ∀ x, (enc x).length = k) (hpos : 0 < k) (xs : List α) : (flatK enc k xs.toArray).toList = flat enc xs := by
  apply List.ext_getElem?
  intro j
  by_cases hj : j < xs.length * k
  · have hq : j / k < xs.length := Nat.div_lt_of_lt_mul (by rw [Nat.mul_comm]; exact hj)
    have hm : j % k < k := Nat.mod_lt _ hpos
    have hf := flat_get hk xs (j / k) _ (j % k) (List.getElem?_eq_getElem hq) hm
    rw [Nat.div_add_mod' j k] at hf
    rw [hf]
    have hd : xs[j / k]! = xs[j / k] := getElem!_pos xs (j / k) hq
    simp only [flatK, Array.toList_map, Array.toList_range, List.getElem?_map, List.size_toArray]
    rw [List.getElem?_range hj]
    simp only [Option.map_some]
    rw [List.getElem!_toArray, hd, List.getElem?_eq_getElem (by rw [hk]; exact hm), getElem!_pos _ _ (by rw [hk]; exact hm)]
  · rw [List.getElem?_eq_none (by simp [flatK]; omega), List.getElem?_eq_none (by rw [flat_length hk]; omega)]

/-- A sorted row stays the call's own. -/
theorem own_sorted {w : World} {base g0 n cap : Nat} {e : TypeId} (hk : ∀ x, (enc x).length = k) (hpos : 0 < k) (xs ys : List α) (hn : xs.length = n) (hy : ys.length = n) (m : Nat) (os : Array Obj)
    (hown : w.ownsRow base e k (.slice (some ⟨g0, 0, none⟩) n cap) n (flat enc xs)) :
    (sortWorldK enc k w g0 0 m ys.toArray os).ownsRow base e k (.slice (some ⟨g0, 0, none⟩) n cap) n (flat enc ys) ∧ Below base w (sortWorldK enc k w g0 0 m ys.toArray os) := by
  rcases hown.2 with ⟨h0, _⟩ | ⟨g, cap', cur, hv, hg, hh, hnc, hcm, hsz, htake⟩
  · cases h0
  · injection hv with e1 _ e3
    injection e1 with e1
    injection e1 with e1
    subst e1; subst e3
    have hlt : g0 < w.heap.size := (Array.getElem?_eq_some_iff.1 hh).1
    have hheap : (sortWorldK enc k w g0 0 m ys.toArray os).heap[g0]? = some (.cells (putCells id 0 (flatK enc k ys.toArray) cur) e (0, 0)) := by
      unfold sortWorldK putRowK putRow mapBlock
      rw [heap_grow_old _ _ (by simp [ahead]; exact hlt)]
      simp only [Array.getElem?_modify, if_true]
      show (w.heap[g0]?).map _ = _
      rw [hh]; rfl
    refine ⟨⟨by rw [flat_length hk, hy], .inr ⟨g0, cap, _, rfl, hg, hheap, hnc, hcm, by simp [putCells, hsz], ?_⟩⟩, ?_⟩
    · have hfl : (flatK enc k ys.toArray).size = n * k := by simp [hy]
      have hle : n * k ≤ cur.size := by rw [hsz]; exact Nat.mul_le_mul_right k hnc
      apply List.ext_getElem?
      intro j
      rw [List.getElem?_take, ← flatK_eq hk hpos ys]
      by_cases hj : j < n * k
      · rw [if_pos hj]
        simp only [putCells, Array.getElem?_toList, Array.getElem?_mapIdx]
        rw [Array.getElem?_eq_getElem (show j < cur.size by omega), Option.map_some, if_pos (by omega), Nat.sub_zero, Array.getElem?_eq_getElem (show j < (flatK enc k ys.toArray).size by omega), getElem!_pos (flatK enc k ys.toArray) j (by omega)]
        rfl
      · rw [if_neg hj, List.getElem?_eq_none (by simp [hy]; omega)]
    · refine ⟨rfl, rfl, rfl, by unfold sortWorldK putRowK putRow mapBlock; simp [ahead], fun i hi => ?_⟩
      unfold sortWorldK putRowK putRow mapBlock
      rw [heap_grow_old _ _ (by simp [ahead]; omega)]
      simp only [Array.getElem?_modify]
      rw [if_neg (by omega)]
      rfl

theorem sort_own {P : Program} {ρ : Ren} (L : SlLaysF0.n6 P ρ) (aE : ∀ w, (isAgg (ρ.t 24)).run P w = .ok true w) (zE : ∀ w, (Go.sizeOf (ρ.t 24)).run P w = .ok k w) (hk : ∀ x, (enc x).length = k) (hpos : 0 < k) (h1 : ∀ x, ∀ v ∈ enc x, v.oneCell' = true)
    (cf : α → α → Int) (hO : SWO (ltOf cf)) (hT : ∀ x y, (ltOf cf) x y = false → (ltOf cf) y x = false → x = y) (g : Nat) (cb : Array Value) (base : Nat) (e : TypeId) (A : Option Addr) (n c : Nat) (xs : List α) (w : World)
    (eg : ∀ args w, (callFunc g args).run P w = .ok (.enter g args) w)
    (hcmp : ∀ W x y, Below base w W → Calls P g (#[.agg (enc x).toArray, .agg (enc y).toArray] ++ cb) W fun e w' => e = .returned (.int .i64 (cf x y)) ∧ ∃ q os', w' = grow (W.drewN q) os')
    (hn : xs.length = n) (hown : w.ownsRow base e k (.slice A n c) n (flat enc xs)) (hsz : n < 4611686018427387904) :
    Calls P (ρ.f 6) #[.slice A n c, .func (.func g) #[] cb] w fun en w' => en = .returned (.tuple #[]) ∧ w'.ownsRow base e k (.slice A n c) n (flat enc (xs.mergeSort fun x y => !(ltOf cf) y x)) ∧ Below base w w' := by
  by_cases h0 : n = 0
  · subst h0
    have hx : xs = [] := List.eq_nil_of_length_eq_zero hn
    subst hx
    refine (AnyF.slices_SortFunc_none L A c (.func (.func g) #[] cb) w).mono fun en w' ⟨he, hw⟩ => ?_
    subst hw
    exact ⟨he, by simpa using hown, Below.refl _ _⟩
  · obtain ⟨g0, rfl⟩ : ∃ g0, A = some ⟨g0, 0, none⟩ := by
      rcases hown.2 with ⟨_, h⟩ | ⟨g, cap, cur, hv, _⟩
      · exact absurd h h0
      · exact ⟨g, by injection hv⟩
    have hown0 := hown
    rcases hown.2 with ⟨h, _⟩ | ⟨g', cap', cur, hv, hg, hh, hnc, hcm, hcs, htake⟩
    · cases h
    · injection hv with e1 _ e3
      injection e1 with e1
      injection e1 with e1
      subst e1; subst e3
      have hlt : g0 < w.heap.size := (Array.getElem?_eq_some_iff.1 hh).1
      have hd : xs.toArray.size = n := by simpa using hn
      have hH : HoldsK enc k w g0 0 xs.toArray := by
        intro j hj
        rw [size_flatK, hd] at hj
        refine ⟨?_, ?_⟩
        · rw [Nat.zero_add]
          have hc : (flat enc xs)[j]? = some ((flatK enc k xs.toArray)[j]!) := by
            rw [← flatK_eq hk hpos xs, Array.getElem?_toList, Array.getElem?_eq_getElem (by rw [size_flatK, hd]; exact hj), getElem!_pos _ _ (by rw [size_flatK, hd]; exact hj)]
          rw [← htake, List.getElem?_take, if_pos hj] at hc
          unfold World.cell?
          rw [hh]
          simpa using hc
        · unfold World.frozen?
          rw [hh]
          simp
      have hs : ∀ m os dk, Below base w (sortWorldK enc k w g0 0 m dk os) := fun m os dk => by
        refine ⟨rfl, rfl, rfl, by unfold sortWorldK putRowK putRow mapBlock; simp [ahead], fun i hi => ?_⟩
        unfold sortWorldK putRowK putRow mapBlock
        rw [heap_grow_old _ _ (by simp [ahead]; omega)]
        simp only [Array.getElem?_modify]
        rw [if_neg (by omega)]
        rfl
      have hcall := AnyQ.slices_SortFunc_total L k aE zE enc hk h1 cf hO g cb g0 0 c xs.toArray w eg (fun m os dk _ x y => hcmp _ x y (hs m os dk)) hH hlt (by rw [hd]; exact hsz) hT
      rw [hd] at hcall
      refine hcall.mono fun en w' ⟨he, m, os, hw⟩ => ?_
      subst hw
      have := own_sorted hk hpos xs (xs.mergeSort fun x y => !(ltOf cf) y x) hn (by simpa using hn) m os hown0
      exact ⟨he, this.1, this.2⟩
end
end Go.Proofs.YtfdebdbmdbmbbaaDoor
