/- A slice of prefixes that came in: it reads as a list of prefixes. -/
import Derived.ProofKit
import Derived.OpenShut
import Derived.Deep.Slices
import Derived.Lib.LaidTab
import Derived.Test.YtfdebdbmdbmbbaaDoorEq
import Derived.Test.YtfdebdbmdbmbbaaDoorPfxA
set_option linter.unusedSimpArgs false
set_option linter.unusedVariables false
namespace Go.Proofs.YtfdebdbmdbmbbaaDoor
open Go.ChangeShapes Go.WideShapes Go.ChangeAt Go.RowKit

section
variable {H : Type} {enc : TypeId × Value → H} {w : World} {base : Nat} {sp : Nat → Bool} {held : Bool} {fuel : Nat} {cs : List Value} {x : DataW H × List MemPlace}
theorem cells_P : Tryd.prog.cellsOf 35 = 18 := by kernel_rfl
theorem cells_A : Tryd.prog.cellsOf 33 = 17 := by kernel_rfl
theorem cells_B : Tryd.prog.cellsOf 31 = 16 := by kernel_rfl
theorem cells_i : Tryd.prog.cellsOf 3 = 1 := by kernel_rfl
theorem cells_u : Tryd.prog.cellsOf 5 = 1 := by kernel_rfl
theorem B_of_trod (h : DataW.trod enc Tryd.prog w base sp held fuel 31 cs = some x) : ∃ bs : List UInt8, bs.length = 16 ∧ cs = encB bs := by
  obtain ⟨xs, m, _, _, hl, hlx, hel⟩ := DataW.trod_array Tryd.underlying31 h
  rw [cells_B] at hl
  have hone : ∀ i, i < 16 → ∃ b : UInt8, cs[i]? = some (u8v b) := fun i hi => by
    have h1 := hel i hi
    rw [cells_u, List.getElem?_eq_getElem (by omega)] at h1
    obtain ⟨n, h2, _, h3⟩ := DataW.trod_int Tryd.underlying5 h1
    have h4 := bounds_u8 h3
    have h5 : cs[i]? = some (.int .u8 n) := by
      have := congrArg (·[0]?) h2
      simpa [List.getElem?_take, List.getElem?_drop] using this
    refine ⟨UInt8.ofNat n.toNat, ?_⟩
    rw [h5]
    unfold u8v
    rw [UInt8.toNat_ofNat', Nat.mod_eq_of_lt (by omega)]
    congr 2; omega
  obtain ⟨f, hf⟩ := Deep.choose_lt (α := UInt8) hone
  refine ⟨(List.range 16).map f, by simp, ?_⟩
  apply List.ext_getElem?
  intro i
  by_cases hi : i < 16
  · rw [hf i hi]
    simp [encB, hi]
  · rw [List.getElem?_eq_none (by omega), List.getElem?_eq_none (by simp [encB]; omega)]
theorem one_int (h : DataW.trod enc Tryd.prog w base sp held fuel 3 cs = some x) : ∃ n, cs = [.int .i64 n] := by
  obtain ⟨n, h1, _⟩ := DataW.trod_int Tryd.underlying3 h
  exact ⟨n, h1⟩
theorem A_of_trod (h : DataW.trod enc Tryd.prog w base sp held fuel 33 cs = some x) : ∃ a : Adr, cs = encA a := by
  obtain ⟨y0, y1, n, _, hl, h0, h1⟩ := trod_struct2 Tryd.underlying33 h
  rw [cells_A] at hl
  simp only [cells_i, cells_B] at h0 h1
  obtain ⟨v, hv⟩ := one_int h0
  obtain ⟨bs, hbs, hb⟩ := B_of_trod h1
  refine ⟨⟨v, bs, hbs⟩, ?_⟩
  match cs, hl with
  | c :: cs', hl =>
    simp only [List.drop_zero, List.take_succ_cons, List.take_zero, List.cons.injEq, and_true] at hv
    simp only [List.drop_succ_cons, List.drop_zero] at hb
    rw [List.take_of_length_le (by simp at hl; omega)] at hb
    rw [hv, hb]; rfl
theorem P_of_trod (h : DataW.trod enc Tryd.prog w base sp held fuel 35 cs = some x) : ∃ p : Pfx, cs = encP p := by
  obtain ⟨y0, y1, n, _, hl, h0, h1⟩ := trod_struct2 Tryd.underlying35 h
  rw [cells_P] at hl
  simp only [cells_i, cells_A] at h0 h1
  obtain ⟨a, ha⟩ := A_of_trod h0
  obtain ⟨v, hv⟩ := one_int h1
  refine ⟨⟨a, v⟩, ?_⟩
  have e : cs = cs.take 17 ++ cs.drop 17 := (List.take_append_drop 17 cs).symm
  rw [List.take_of_length_le (by simp [hl])] at hv
  rw [List.drop_zero] at ha
  rw [e, ha, hv]; rfl
/-- The slice opened. -/
theorem open_slP (h : DataW.trod enc Tryd.prog w base sp held fuel 22 cs = some x) :
    (cs = [.slice none 0 0]) ∨ ∃ (a : Addr) (len cap : Nat) (xs : List Pfx), cs = [.slice (some a) len cap] ∧ len ≤ cap ∧ xs.length = len ∧ SlR encP 18 w w.heap.size (some a) xs := by
  rcases Deep.open_slice Tryd.underlying22 h with ⟨h, _⟩ | ⟨a, len, cap, m, n, D, Pl, rfl, _, hl, _, hmm, _, hx⟩
  · exact .inl h
  right
  have hlm : len ≤ m := by rw [hmm]; split <;> omega
  have hone : ∀ i, i < len → ∃ p : Pfx, ∀ j v, (encP p)[j]? = some v → w.cell? (a.add (i * 18 + j)) = some v := fun i hi => by
    obtain ⟨cs', h1, h2⟩ := hx i (by omega)
    obtain ⟨p, rfl⟩ := P_of_trod h2
    refine ⟨p, fun j v hj => ?_⟩
    obtain ⟨_, h3, h4⟩ := World.cells?_some h1
    rw [cells_P] at h3 h4
    have hj18 : j < 18 := by rw [← h3]; exact (List.getElem?_eq_some_iff.1 hj).1
    rw [← hj, ← h4 j hj18, Deep.add_add]
  obtain ⟨f, hf⟩ := Deep.choose_lt (α := Pfx) hone
  refine ⟨a, len, cap, (List.range len).map f, rfl, hl, by simp, ?_⟩
  by_cases h0 : len = 0
  · subst h0; exact .inl rfl
  · obtain ⟨b, o, spot⟩ := a
    have h1 := hf 0 (by omega) 0 _ (List.getElem?_eq_getElem (by rw [encP_length]; omega))
    have hspot : spot = none := by simpa [Addr.add] using World.cell?_spot h1
    subst hspot
    have hbl : b < w.heap.size := by
      unfold World.cell? at h1
      simp [Addr.add] at h1
      cases hb : w.heap[b]? with
      | none => rw [hb] at h1; cases h1
      | some ob => exact (Array.getElem?_eq_some_iff.1 hb).1
    refine .inr ⟨b, o, rfl, hbl, fun i y hy => ?_⟩
    have hi : i < len := by have := (List.getElem?_eq_some_iff.1 hy).1; simpa using this
    have hyf : f i = y := by simpa [hi] using hy
    refine rowAt_of_cells (encP_length y) (by omega) fun j v hv => ?_
    have := hf i hi j v (by rw [hyf]; exact hv)
    rw [← this]
    congr 1
    unfold Addr.add
    split <;> simp_all <;> omega
end
end Go.Proofs.YtfdebdbmdbmbbaaDoor
