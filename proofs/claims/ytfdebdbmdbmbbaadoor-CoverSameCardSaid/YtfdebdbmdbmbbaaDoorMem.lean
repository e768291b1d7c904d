/- Words for memory: a world with blocks behind it (gw), a row of cells that reads as a list (rowAt), loads and stores of whole aggregates. -/
import Derived.WalkKit
import Derived.BigQuiet
import Derived.Laws.Cells
import Derived.Laws.IdiomCopy
import Derived.Lib.Hide
import Derived.Maps.AppendAt
import Derived.StillTailTactics
set_option linter.unusedSimpArgs false
set_option linter.unusedVariables false
namespace Go.Proofs.YtfdebdbmdbmbbaaDoor
open Go.RowKit

@[go_sem] theorem lt_2 (n : Nat) : (n < n + 1 + 1) = True := by simp; omega
@[go_sem] theorem lt_3 (n : Nat) : (n < n + 1 + 1 + 1) = True := by simp; omega
@[go_sem] theorem lt_4 (n : Nat) : (n < n + 1 + 1 + 1 + 1) = True := by simp; omega
@[go_sem] theorem lt_5 (n : Nat) : (n < n + 1 + 1 + 1 + 1 + 1) = True := by simp; omega
@[go_sem] theorem lt_6 (n : Nat) : (n < n + 1 + 1 + 1 + 1 + 1 + 1) = True := by simp; omega
@[go_sem] theorem lt_7 (n : Nat) : (n < n + 1 + 1 + 1 + 1 + 1 + 1 + 1) = True := by simp; omega
@[go_sem] theorem lt_8 (n : Nat) : (n < n + 1 + 1 + 1 + 1 + 1 + 1 + 1 + 1) = True := by simp; omega
@[go_sem] theorem ltk_0 (n k : Nat) : (n < n + k + 1) = True := by simp; omega
@[go_sem] theorem lt1k_0 (n k : Nat) : (n < n + 1 + k) = True := by simp; omega
@[go_sem] theorem lt2k_0 (n k : Nat) : (n < n + 1 + 1 + k) = True := by simp; omega
@[go_sem] theorem lt3k_0 (n k : Nat) : (n < n + 1 + 1 + 1 + k) = True := by simp; omega
@[go_sem] theorem ltk_1 (n k : Nat) : (n < n + k + 1 + 1) = True := by simp; omega
@[go_sem] theorem lt1k_1 (n k : Nat) : (n < n + 1 + k + 1) = True := by simp; omega
@[go_sem] theorem lt2k_1 (n k : Nat) : (n < n + 1 + 1 + k + 1) = True := by simp; omega
@[go_sem] theorem lt3k_1 (n k : Nat) : (n < n + 1 + 1 + 1 + k + 1) = True := by simp; omega
@[go_sem] theorem ltk_2 (n k : Nat) : (n < n + k + 1 + 1 + 1) = True := by simp; omega
@[go_sem] theorem lt1k_2 (n k : Nat) : (n < n + 1 + k + 1 + 1) = True := by simp; omega
@[go_sem] theorem lt2k_2 (n k : Nat) : (n < n + 1 + 1 + k + 1 + 1) = True := by simp; omega
@[go_sem] theorem lt3k_2 (n k : Nat) : (n < n + 1 + 1 + 1 + k + 1 + 1) = True := by simp; omega
@[go_sem] theorem ltk_3 (n k : Nat) : (n < n + k + 1 + 1 + 1 + 1) = True := by simp; omega
@[go_sem] theorem lt1k_3 (n k : Nat) : (n < n + 1 + k + 1 + 1 + 1) = True := by simp; omega
@[go_sem] theorem lt2k_3 (n k : Nat) : (n < n + 1 + 1 + k + 1 + 1 + 1) = True := by simp; omega
@[go_sem] theorem lt3k_3 (n k : Nat) : (n < n + 1 + 1 + 1 + k + 1 + 1 + 1) = True := by simp; omega
@[go_sem] theorem ltk_4 (n k : Nat) : (n < n + k + 1 + 1 + 1 + 1 + 1) = True := by simp; omega
@[go_sem] theorem lt1k_4 (n k : Nat) : (n < n + 1 + k + 1 + 1 + 1 + 1) = True := by simp; omega
@[go_sem] theorem lt2k_4 (n k : Nat) : (n < n + 1 + 1 + k + 1 + 1 + 1 + 1) = True := by simp; omega
@[go_sem] theorem lt3k_4 (n k : Nat) : (n < n + 1 + 1 + 1 + k + 1 + 1 + 1 + 1) = True := by simp; omega

/-- The world w with blocks behind it, and so many answers drawn. -/
def gw (w : World) (d : Nat) (os : Array Obj) : World := { w with heap := w.heap ++ os, drawn := d }

theorem gw_of_below {w w' : World} (h : Below w.heap.size w w') : ∃ d os, w' = gw w d os := by
  refine ⟨w'.drawn, w'.heap.extract w.heap.size w'.heap.size, ?_⟩
  obtain ⟨h1, h2, h3, h4, h5⟩ := h
  cases w with
  | mk heap tape drawn os output =>
  cases w' with
  | mk heap' tape' drawn' os' output' =>
    simp only at h1 h2 h3 h4 h5
    subst h1; subst h2; subst h3
    simp only [gw, World.mk.injEq, and_true]
    apply Array.ext_getElem?
    intro k
    by_cases hk : k < heap.size
    · rw [Array.getElem?_append_left hk, h5 k hk]
    · rw [Array.getElem?_append_right (by omega), Array.getElem?_extract]
      by_cases hk2 : k < heap'.size
      · simp [show heap.size + (k - heap.size) = k by omega]; omega
      · simp [Array.getElem?_eq_none (show heap'.size ≤ k by omega)]; omega

theorem below_gw (w : World) (d : Nat) (os : Array Obj) : Below w.heap.size w (gw w d os) :=
  ⟨rfl, rfl, rfl, by simp [gw], fun k hk => by simp [gw, Array.getElem?_append_left hk]⟩

@[go_sem] theorem gw_size (w : World) (d : Nat) (os : Array Obj) : (gw w d os).heap.size = w.heap.size + os.size := by simp [gw]
theorem gw_heap (w : World) (d : Nat) (os : Array Obj) (k : Nat) (h : k < w.heap.size) : (gw w d os).heap[k]? = w.heap[k]? := by simp [gw, Array.getElem?_append_left h]
@[go_sem] theorem gw_gw (w : World) (d d' : Nat) (os os' : Array Obj) : gw (gw w d os) d' os' = gw w d' (os ++ os') := by simp [gw, Array.append_assoc]
@[go_sem] theorem gw_drew (w : World) (d : Nat) (os : Array Obj) : (gw w d os).drew = gw w (d + 1) os := rfl
@[go_sem] theorem gw_drewN (w : World) (d n : Nat) (os : Array Obj) : (gw w d os).drewN n = gw w (d + n) os := rfl
@[go_sem] theorem gw_cell (w : World) (d : Nat) (os : Array Obj) (a : Addr) (h : a.block < w.heap.size) : (gw w d os).cell? a = w.cell? a := World.cell?_of_block (gw_heap w d os _ h)
@[go_sem] theorem gw_frozen (w : World) (d : Nat) (os : Array Obj) (a : Addr) (h : a.block < w.heap.size) : (gw w d os).frozen? a = w.frozen? a := World.frozen?_of_block (gw_heap w d os _ h)

/-- .. of n cells, from o on, of block b, as values. -/
def rowAt (w : World) (b o n : Nat) : Option (List Value) :=
  match w.heap[b]? with
  | some (.cells c _ _) => if o + n ≤ c.size then some ((c.toList.drop o).take n) else none
  | _ => none
/-- The block may be written. -/
def noFr (w : World) (b : Nat) : Bool :=
  match w.heap[b]? with
  | some (.cells _ _ f) => f == (0, 0)
  | _ => false
/-- n of a block's cells. -/
def cutRow (c : Array Value) (o n : Nat) : Option (List Value) := if o + n ≤ c.size then some ((c.toList.drop o).take n) else none

theorem rowAt_of_heap {w w' : World} {b : Nat} (h : w'.heap[b]? = w.heap[b]?) (o n : Nat) : rowAt w' b o n = rowAt w b o n := by unfold rowAt; rw [h]
theorem noFr_of_heap {w w' : World} {b : Nat} (h : w'.heap[b]? = w.heap[b]?) : noFr w' b = noFr w b := by unfold noFr; rw [h]
theorem rowAt_below {B : Nat} {w w' : World} (hb : Below B w w') {b : Nat} (h : b < B) (o n : Nat) : rowAt w' b o n = rowAt w b o n := rowAt_of_heap (hb.block b h) o n
@[go_sem] theorem rowAt_gw (w : World) (d : Nat) (os : Array Obj) (b o n : Nat) (h : b < w.heap.size) : rowAt (gw w d os) b o n = rowAt w b o n := rowAt_of_heap (gw_heap w d os b h) o n
@[go_sem] theorem noFr_gw (w : World) (d : Nat) (os : Array Obj) (b : Nat) (h : b < w.heap.size) : noFr (gw w d os) b = noFr w b := noFr_of_heap (gw_heap w d os b h)
@[go_sem] theorem rowAt_drew (w : World) (b o n : Nat) : rowAt w.drew b o n = rowAt w b o n := rfl
@[go_sem] theorem noFr_drew (w : World) (b : Nat) : noFr w.drew b = noFr w b := rfl
@[go_sem] theorem rowAt_drewN (w : World) (b o n k : Nat) : rowAt (w.drewN k) b o n = rowAt w b o n := rfl
@[go_sem] theorem noFr_drewN (w : World) (b k : Nat) : noFr (w.drewN k) b = noFr w b := rfl
@[go_sem] theorem rowAt_alloc_new (w : World) (c : Array Value) (t : TypeId) (f : Nat × Nat) (b o n : Nat) (h : b = w.heap.size) : rowAt (w.alloc (.cells c t f)) b o n = cutRow c o n := by
  subst h; unfold rowAt cutRow; rw [show (w.alloc (.cells c t f)).heap[w.heap.size]? = some (.cells c t f) from heap_alloc_new w _]
@[go_sem] theorem noFr_alloc_new (w : World) (c : Array Value) (t : TypeId) (b : Nat) (h : b = w.heap.size) : noFr (w.alloc (.cells c t)) b = true := by
  subst h; unfold noFr; rw [show (w.alloc (.cells c t)).heap[w.heap.size]? = some (.cells c t) from heap_alloc_new w _]; rfl
@[go_sem] theorem rowAt_alloc_old (w : World) (ob : Obj) (b o n : Nat) (h : b < w.heap.size) : rowAt (w.alloc ob) b o n = rowAt w b o n := rowAt_of_heap (Below.heap_alloc w ob b h) o n
@[go_sem] theorem noFr_alloc_old (w : World) (ob : Obj) (b : Nat) (h : b < w.heap.size) : noFr (w.alloc ob) b = noFr w b := noFr_of_heap (Below.heap_alloc w ob b h)
@[go_sem] theorem rowAt_setCell (w : World) (a : Addr) (v : Value) (b o n : Nat) (h : b ≠ a.block) : rowAt (w.setCell a v) b o n = rowAt w b o n := rowAt_of_heap (Below.heap_setCell w a v b h) o n
@[go_sem] theorem noFr_setCell (w : World) (a : Addr) (v : Value) (b : Nat) : noFr (w.setCell a v) b = noFr w b := by
  unfold noFr World.setCell
  simp only [Array.getElem?_modify]
  by_cases h : a.block = b
  · rw [if_pos h]
    cases w.heap[b]? with
    | none => rfl
    | some ob => cases ob <;> rfl
  · rw [if_neg h]

theorem rowAt_setCell_in (w : World) (b j o n : Nat) (v : Value) (l : List Value) (h : rowAt w b o n = some l) (ho : o ≤ j) (hj : j < o + n) : rowAt (w.setCell ⟨b, j, none⟩ v) b o n = some (l.set (j - o) v) := by
  unfold rowAt at h ⊢
  cases hb : w.heap[b]? with
  | none => simp [hb] at h
  | some ob =>
    cases ob with
    | cells c t f =>
      have e : (w.setCell ⟨b, j, none⟩ v).heap[b]? = some (.cells (c.setIfInBounds j v) t f) := by simp [World.setCell, Array.getElem?_modify, hb]
      rw [e]
      simp only [hb] at h ⊢
      rw [Array.size_setIfInBounds]
      split at h
      · rename_i hs
        rw [if_pos hs]
        simp only [Option.some.injEq] at h ⊢
        subst h
        apply List.ext_getElem?
        intro k
        simp only [List.getElem?_take, List.getElem?_drop, Array.toList_setIfInBounds, List.getElem?_set, List.length_take, List.length_drop, Array.length_toList]
        by_cases hk : k < n
        · by_cases hjk : j = o + k
          · subst hjk; simp [hk, show o + k < c.size by omega]; omega
          · simp [hk, hjk, show ¬ j - o = k by omega]
        · simp [hk]; omega
      · cases h
    | _ => simp [hb] at h

theorem rowAt_some {w : World} {b o n : Nat} {l : List Value} (h : rowAt w b o n = some l) : l.length = n ∧ ∀ j v, l[j]? = some v → w.cell? ⟨b, o + j, none⟩ = some v := by
  unfold rowAt at h
  split at h
  · rename_i c _ _ hc
    split at h
    · simp only [Option.some.injEq] at h; subst h
      refine ⟨by simp; omega, fun j v hj => ?_⟩
      rw [List.getElem?_take] at hj
      split at hj
      · rw [List.getElem?_drop] at hj
        simp only [World.cell?, hc]
        simpa using hj
      · cases hj
    · cases h
  · cases h

theorem rowAt_cell {w : World} {b o n : Nat} {l : List Value} (h : rowAt w b o n = some l) (j : Nat) (hj : j < n) : ∃ v, l[j]? = some v ∧ w.cell? ⟨b, o + j, none⟩ = some v := by
  obtain ⟨h1, h2⟩ := rowAt_some h
  exact ⟨l[j], List.getElem?_eq_getElem (by omega), h2 j _ (List.getElem?_eq_getElem (by omega))⟩

theorem rowAt_of_cells {w : World} {b o n : Nat} {l : List Value} (hl : l.length = n) (hn : 0 < n) (h : ∀ j v, l[j]? = some v → w.cell? ⟨b, o + j, none⟩ = some v) : rowAt w b o n = some l := by
  have h0 := h 0 _ (List.getElem?_eq_getElem (by omega))
  unfold rowAt
  unfold World.cell? at h h0
  cases hb : w.heap[b]? with
  | none => simp [hb] at h0
  | some ob =>
    cases ob with
    | cells c t f =>
      simp only [hb] at h h0 ⊢
      simp only [Option.isSome_none] at h h0
      have hlast := h (n - 1) _ (List.getElem?_eq_getElem (by omega))
      have : o + (n - 1) < c.size := by
        have := hlast
        simp only [Bool.false_eq_true, if_false] at this
        exact (Array.getElem?_eq_some_iff.1 this).1
      rw [if_pos (by omega)]
      congr 1
      apply List.ext_getElem?
      intro j
      rw [List.getElem?_take]
      by_cases hj : j < n
      · rw [if_pos hj, List.getElem?_drop, List.getElem?_eq_getElem (show j < l.length by omega)]
        have := h j _ (List.getElem?_eq_getElem (by omega))
        simpa using this
      · rw [if_neg hj, List.getElem?_eq_none (by omega)]
    | _ => simp [hb] at h0

theorem noFr_frozen {w : World} {b : Nat} (h : noFr w b = true) (j : Nat) : w.frozen? ⟨b, j, none⟩ = false := by
  unfold noFr at h
  unfold World.frozen?
  split at h
  · rename_i c t f hc
    have : f = (0, 0) := by simpa using h
    subst this
    simp [hc]
  · cases h

/-- The place of a pointer. -/
def ptrB : Value → Nat
  | .pointer (some a) => a.block
  | _ => 0
def ptrO : Value → Nat
  | .pointer (some a) => a.off
  | _ => 0
def ptrPlain : Value → Bool
  | .pointer (some a) => a.spot.isNone
  | _ => false
@[go_sem] theorem ptrB_mk (a : Addr) : ptrB (.pointer (some a)) = a.block := rfl
@[go_sem] theorem ptrO_mk (a : Addr) : ptrO (.pointer (some a)) = a.off := rfl
@[go_sem] theorem ptrPlain_mk (b o : Nat) : ptrPlain (.pointer (some ⟨b, o, none⟩)) = true := rfl
theorem ptrPlain_some {v : Value} (h : ptrPlain v = true) : v = .pointer (some ⟨ptrB v, ptrO v, none⟩) := by
  cases v with
  | pointer p =>
    cases p with
    | none => cases h
    | some a => cases a with
      | mk b o s => cases s with
        | none => rfl
        | some x => cases h
  | _ => cases h

/-- A type whose values are aggregates of n cells. -/
structure AggTy (P : Program) (t : TypeId) (n : Nat) : Prop where
  agg : ∀ w, (isAgg t).run P w = .ok true w
  size : ∀ w, (sizeOf t).run P w = .ok n w

@[go_sem] def gotRow (w : World) (b o n : Nat) : Array Value := ((rowAt w b o n).getD []).toArray

theorem run_loadVar_rowAt {P : Program} {t : TypeId} {n : Nat} (A : AggTy P t n) (w : World) (b o : Nat) (h : (rowAt w b o n).isSome = true) :
    (loadVar t ⟨b, o, none⟩).run P w = .ok (.agg (gotRow w b o n)) w := by
  obtain ⟨l, hl⟩ := Option.isSome_iff_exists.1 h
  obtain ⟨h1, h2⟩ := rowAt_some hl
  have hc := run_loadCells_list (P := P) (w := w) ⟨b, o, none⟩ l (fun j v hj => by
    have := h2 j v hj
    rw [← this]
    congr 1
    unfold Addr.add
    split
    · subst_vars; rfl
    · rfl)
  rw [h1] at hc
  simp [loadVar, A.agg, A.size, hc, gotRow, hl]

theorem run_load_rowAt {P : Program} {t : TypeId} {n : Nat} (A : AggTy P t n) (ev : Operand → Value) (d : Option Tmp) (x : Operand) (ty : TypeId) (pos : String) (af : Array Edge) (g : Option (Nat × Bool)) (w : World)
    (hp : ptrPlain (ev x) = true) (h : (rowAt w (ptrB (ev x)) (ptrO (ev x)) n).isSome = true) :
    (execOp ev ⟨d, .load t x, ty, pos, af, g⟩).run P w = .ok (.value (.agg (gotRow w (ptrB (ev x)) (ptrO (ev x)) n))) w := by
  obtain ⟨B, O, hv⟩ : ∃ B O, ev x = .pointer (some ⟨B, O, none⟩) := ⟨_, _, ptrPlain_some hp⟩
  have hr := run_loadVar_rowAt A w B O (by rw [hv] at h; exact h)
  unfold execOp
  simp only [Instr.loadAt, hv, ptrB_mk, ptrO_mk]
  simp [Instr.sureAddr, hr]

/-- An aggregate's cells. -/
def aggL : Value → List Value
  | .agg cs => cs.toList
  | _ => []
@[go_sem] theorem aggL_mk (l : List Value) : aggL (.agg l.toArray) = l := rfl

/-- Each of them is one cell. -/
def allOne (l : List Value) : Bool := l.all (·.oneCell')
@[go_sem] theorem allOne_nil : allOne [] = true := rfl
@[go_sem] theorem allOne_int (k : IntKind) (n : Int) (l : List Value) : allOne (.int k n :: l) = allOne l := by simp [allOne, Value.oneCell']
@[go_sem] theorem allOne_bool (b : Bool) (l : List Value) : allOne (.bool b :: l) = allOne l := by simp [allOne, Value.oneCell']
@[go_sem] theorem allOne_slice (a : Option Addr) (n c : Nat) (l : List Value) : allOne (.slice a n c :: l) = allOne l := by simp [allOne, Value.oneCell']
@[go_sem] theorem allOne_append (l m : List Value) : allOne (l ++ m) = (allOne l && allOne m) := by simp [allOne]
theorem aggL_some {v : Value} {n : Nat} (hn : 0 < n) (h : (aggL v).length = n) : ∃ l : List Value, v = .agg l.toArray ∧ l.length = n := by
  cases v with
  | agg cs => exact ⟨cs.toList, by simp, by simpa [aggL] using h⟩
  | _ => simp [aggL] at h; omega
/-- A number, a bool or a slice. -/
def isOne : Value → Bool
  | .int _ _ => true
  | .bool _ => true
  | .slice _ _ _ => true
  | _ => false
@[go_sem] theorem isOne_int (k : IntKind) (n : Int) : isOne (.int k n) = true := rfl
@[go_sem] theorem isOne_bool (b : Bool) : isOne (.bool b) = true := rfl
@[go_sem] theorem isOne_slice (a : Option Addr) (l c : Nat) : isOne (.slice a l c) = true := rfl
theorem isOne_cases {v : Value} (h : isOne v = true) : (∃ p : IntKind × Int, v = .int p.1 p.2) ∨ (∃ b, v = .bool b) ∨ ∃ a l c, v = .slice a l c := by
  cases v with
  | int k n => exact .inl ⟨(k, n), rfl⟩
  | bool b => exact .inr (.inl ⟨b, rfl⟩)
  | slice a l c => exact .inr (.inr ⟨a, l, c, rfl⟩)
  | _ => cases h

theorem run_store_rowAt {P : Program} {t : TypeId} {n : Nat} (A : AggTy P t n) (ev : Operand → Value) (d : Option Tmp) (x y : Operand) (ty : TypeId) (pos : String) (af : Array Edge) (g : Option (Nat × Bool)) (w : World)
    (hp : ptrPlain (ev x) = true) (hn : (aggL (ev y)).length = n) (hpos : 0 < n) (h1 : allOne (aggL (ev y)) = true) (h : (rowAt w (ptrB (ev x)) (ptrO (ev x)) n).isSome = true) (hf : noFr w (ptrB (ev x)) = true) :
    (execOp ev ⟨d, .store t x y, ty, pos, af, g⟩).run P w = .ok .skip (w.setCells (ptrB (ev x)) (ptrO (ev x)) (aggL (ev y))) := by
  obtain ⟨B, O, hv⟩ : ∃ B O, ev x = .pointer (some ⟨B, O, none⟩) := ⟨_, _, ptrPlain_some hp⟩
  have hy : ∃ cs : Array Value, ev y = .agg cs := by
    cases he : ev y with
    | agg cs => exact ⟨cs, rfl⟩
    | _ => rw [he] at hn; simp [aggL] at hn; omega
  obtain ⟨cs, hy⟩ := hy
  rw [hv] at h hf ⊢
  rw [hy] at hn h1 ⊢
  simp only [ptrB_mk, ptrO_mk, aggL] at *
  obtain ⟨l, hl⟩ := Option.isSome_iff_exists.1 h
  have hst := run_storeCells_cells (P := P) B O cs.toList 0 w
    (fun j hj => by
      obtain ⟨v, _, hc⟩ := rowAt_cell hl j (by omega)
      rw [Nat.add_zero, hc]; rfl)
    (fun j _ => noFr_frozen hf _) (fun v hv => List.all_eq_true.1 h1 v hv)
  rw [Nat.add_zero] at hst
  have hsz : cs.size = n := by simpa using hn
  unfold execOp
  simp only [Instr.storeAt, hv, hy]
  simp [Instr.sureAddr, storeVar, A.size, Value.cells, hsz, hst]

theorem heap_setCells (b : Nat) : ∀ (vs : List Value) (o : Nat) (w : World) (k : Nat), k ≠ b → (w.setCells b o vs).heap[k]? = w.heap[k]?
  | [], _, _, _, _ => rfl
  | v :: r, o, w, k, h => by rw [World.setCells, heap_setCells b r (o + 1) _ k h, Below.heap_setCell _ _ _ _ h]
@[go_sem] theorem size_setCells (b : Nat) : ∀ (vs : List Value) (o : Nat) (w : World), (w.setCells b o vs).heap.size = w.heap.size
  | [], _, _ => rfl
  | v :: r, o, w => by rw [World.setCells, size_setCells b r]; simp [World.setCell]
theorem below_setCells {B : Nat} {a w : World} (h : Below B a w) (b o : Nat) (vs : List Value) (hb : B ≤ b) : Below B a (w.setCells b o vs) := by
  induction vs generalizing o w with
  | nil => exact h
  | cons v r ih => exact ih (h.setCell (p := ⟨b, o, none⟩) hb v) (o + 1)
@[go_sem] theorem rowAt_setCells (w : World) (b o : Nat) (vs : List Value) (b' o' n : Nat) (h : b' ≠ b) : rowAt (w.setCells b o vs) b' o' n = rowAt w b' o' n := rowAt_of_heap (heap_setCells b vs o w b' h) o' n
@[go_sem] theorem cell_setCells (w : World) (b o : Nat) (vs : List Value) (a : Addr) (h : a.block ≠ b) : (w.setCells b o vs).cell? a = w.cell? a := World.cell?_of_block (heap_setCells b vs o w a.block h)
@[go_sem] theorem noFr_setCells (b : Nat) : ∀ (vs : List Value) (o : Nat) (w : World) (k : Nat), noFr (w.setCells b o vs) k = noFr w k
  | [], _, _, _ => rfl
  | v :: r, o, w, k => by rw [World.setCells, noFr_setCells b r (o + 1), noFr_setCell]
@[go_sem] theorem rowAt_setCells_same (w : World) (b o : Nat) (vs : List Value) (b' o' n : Nat) (hb : b' = b) (ho : o' = o) (hn : n = vs.length) (hpos : 0 < n) (h : (rowAt w b o n).isSome = true) : rowAt (w.setCells b o vs) b' o' n = some vs := by
  subst hb; subst ho; subst hn
  obtain ⟨l, hl⟩ := Option.isSome_iff_exists.1 h
  refine rowAt_of_cells rfl hpos fun j v hj => ?_
  obtain ⟨hj', rfl⟩ := List.getElem?_eq_some_iff.1 hj
  exact World.cell?_setCells_in b' vs o' w (fun i hi => by
    obtain ⟨u, _, hc⟩ := rowAt_cell hl i hi
    rw [hc]; rfl) j hj'

theorem heap_setCells_same (b : Nat) (t : TypeId) (f : Nat × Nat) : ∀ (vs : List Value) (o : Nat) (c : Array Value) (w : World), w.heap[b]? = some (.cells c t f) → o + vs.length ≤ c.size →
    (w.setCells b o vs).heap[b]? = some (.cells (c.toList.take o ++ vs ++ c.toList.drop (o + vs.length)).toArray t f)
  | [], o, c, w, h, _ => by simp [World.setCells, h]
  | v :: r, o, c, w, h, hs => by
    have e : (w.setCell ⟨b, o, none⟩ v).heap[b]? = some (.cells (c.setIfInBounds o v) t f) := by simp [World.setCell, Array.getElem?_modify, h]
    simp only [List.length_cons] at hs
    rw [World.setCells, heap_setCells_same b t f r (o + 1) _ _ e (by simp; omega)]
    congr 3
    apply List.ext_getElem?
    intro k
    simp only [Array.toList_setIfInBounds, List.getElem?_append, List.getElem?_take, List.getElem?_drop, List.getElem?_set, List.length_append, List.length_take, List.length_set, Array.length_toList, List.length_cons, List.getElem?_cons]
    by_cases h1 : k < o
    · simp [show k < o + 1 by omega, show k < min (o + 1) c.size by omega, show k < min o c.size by omega, h1, show ¬ o = k by omega, show k < min (o + 1) c.size + r.length by omega, show k < min o c.size + (r.length + 1) by omega]
    · by_cases h2 : k = o
      · subst h2
        simp [show k < min (k + 1) c.size by omega, show ¬ k < min k c.size by omega, show k < c.size by omega, show k - min k c.size = 0 by omega, show k < min (k + 1) c.size + r.length by omega, show k < min k c.size + (r.length + 1) by omega]
      · have h3 : ¬ k < min (o + 1) c.size := by omega
        have h4 : ¬ k < min o c.size := by omega
        have h5 : k - min (o + 1) c.size = k - o - 1 := by omega
        have h6 : k - min o c.size = k - o := by omega
        have h7 : k - o ≠ 0 := by omega
        simp only [h3, h4, h5, h6, h7, if_false]
        by_cases h8 : k < min (o + 1) c.size + r.length
        · rw [if_pos h8, if_pos (by omega)]
        · rw [if_neg h8, if_neg (by omega), if_neg (by omega)]
          congr 1; omega
theorem World.ext_heap {w w' : World} (h : w'.heap = w.heap) (ht : w'.tape = w.tape) (hd : w'.drawn = w.drawn) (ho : w'.os = w.os) (hu : w'.output = w.output) : w' = w := by
  cases w; cases w'; simp_all
theorem setCells_rest (b : Nat) : ∀ (vs : List Value) (o : Nat) (w : World), (w.setCells b o vs).tape = w.tape ∧ (w.setCells b o vs).drawn = w.drawn ∧ (w.setCells b o vs).os = w.os ∧ (w.setCells b o vs).output = w.output
  | [], _, _ => ⟨rfl, rfl, rfl, rfl⟩
  | v :: r, o, w => setCells_rest b r (o + 1) (w.setCell ⟨b, o, none⟩ v)
/-- A new variable that is written whole. -/
@[go_sem] theorem setCells_alloc_new (w : World) (c : Array Value) (t : TypeId) (b : Nat) (vs : List Value) (hb : b = w.heap.size) (hs : c.size = vs.length) : (w.alloc (.cells c t)).setCells b 0 vs = w.alloc (.cells vs.toArray t) := by
  subst hb
  obtain ⟨h1, h2, h3, h4⟩ := setCells_rest w.heap.size vs 0 (w.alloc (.cells c t))
  refine World.ext_heap ?_ h1 h2 h3 h4
  apply Array.ext_getElem?
  intro k
  by_cases hk : k = w.heap.size
  · subst hk
    rw [heap_setCells_same w.heap.size t (0, 0) vs 0 c _ (heap_alloc_new w _) (by omega), heap_alloc_new w]
    simp [← hs]
  · rw [heap_setCells _ _ _ _ _ hk]
    simp only [World.alloc, Array.getElem?_push, if_neg hk]
/-- A part of a row that is written. -/
@[go_sem] theorem rowAt_setCells_part (w : World) (b o : Nat) (vs : List Value) (b' o' n : Nat) (hb : b' = b) (ho : o' ≤ o) (hn : o + vs.length ≤ o' + n) (hne : vs.length < n) (h : (rowAt w b o' n).isSome = true) :
    rowAt (w.setCells b o vs) b' o' n = (rowAt w b o' n).map fun l => l.take (o - o') ++ vs ++ l.drop (o - o' + vs.length) := by
  subst hb
  obtain ⟨l, hl⟩ := Option.isSome_iff_exists.1 h
  obtain ⟨hl1, hl2⟩ := rowAt_some hl
  rw [hl, Option.map_some]
  refine rowAt_of_cells (by simp; omega) (by omega) fun j v hj => ?_
  have hjn : j < n := by
    have := (List.getElem?_eq_some_iff.1 hj).1
    simp at this; omega
  by_cases h1 : o' + j < o
  · rw [World.cell?_setCells_out _ _ _ _ _ (fun _ _ => Or.inl h1)]
    refine hl2 j v ?_
    rw [List.append_assoc, List.getElem?_append_left (by simp; omega), List.getElem?_take, if_pos (by omega)] at hj
    exact hj
  · by_cases h2 : o' + j < o + vs.length
    · have h3 : vs[o' + j - o]? = some v := by
        rw [List.append_assoc, List.getElem?_append_right (by simp; omega), List.getElem?_append_left (by simp; omega)] at hj
        rw [← hj]; congr 1; simp; omega
      obtain ⟨hj', rfl⟩ := List.getElem?_eq_some_iff.1 h3
      have := World.cell?_setCells_in b' vs o w (fun i hi => by
        obtain ⟨u, _, hc⟩ := rowAt_cell hl (o - o' + i) (by omega)
        rw [show o + i = o' + (o - o' + i) by omega, hc]; rfl) (o' + j - o) hj'
      rw [show o + (o' + j - o) = o' + j by omega] at this
      exact this
    · rw [World.cell?_setCells_out _ _ _ _ _ (fun _ _ => Or.inr (by show o + vs.length ≤ o' + j; omega))]
      refine hl2 j v ?_
      rw [List.getElem?_append_right (by simp; omega), List.getElem?_drop] at hj
      rw [← hj]; congr 1; simp; omega

/-- .. for the regions that draw their order and call what lays blocks: the class of worlds. -/
structure GwP where
  d : Nat
  os : Array Obj
  deriving Inhabited
def InGw (w w' : World) : Prop := ∃ p : GwP, w' = gw w p.d p.os
@[go_sem ↓] theorem forall_inGw {w : World} {Q : World → Prop} : (∀ w', InGw w w' → Q w') ↔ ∀ p : GwP, Q (gw w p.d p.os) :=
  ⟨fun h p => h _ ⟨p, rfl⟩, fun h _ ⟨p, e⟩ => e ▸ h p⟩
theorem wp_region_gw {P : Program} {id : Nat} {Q : Exit → Act → World → Prop} {a : Act} {w : World} {l : List Oper} (hm : P.follows .mixedOrders = true) (hB : Region.lexB .any l.toArray = true)
    (h : wpQuiet P l.toArray (InGw w) (fun a' => ∀ (d : Nat) (os : Array Obj), Q .normal a' (gw w d os)) l a) : (Code.region id l.toArray true).wp P Q a w :=
  wp_region_quiet (C := InGw w) hm hB ⟨⟨w.drawn + 1, #[]⟩, by simp [gw]⟩ (by
    have e : (fun a' => ∀ (d : Nat) (os : Array Obj), Q .normal a' (gw w d os)) = (fun a' => ∀ w', InGw w w' → Q .normal a' w') := by
      funext a'
      exact propext ⟨fun h _ ⟨p, e⟩ => e ▸ h p.d p.os, fun h d os => h _ ⟨⟨d, os⟩, rfl⟩⟩
    rw [e] at h
    simpa using h)
theorem Calls.in_gw {P : Program} {f : FuncId} {args : Array Value} {w : World} {d : Nat} {os : Array Obj} {v : Value}
    (h : Calls P f args (gw w d os) fun e w' => e = .returned v ∧ Below (gw w d os).heap.size (gw w d os) w') : Calls P f args (gw w d os) fun e w'' => e = .returned v ∧ InGw w w'' :=
  h.mono fun _ _ ⟨he, hb⟩ => by
    obtain ⟨d', os', rfl⟩ := gw_of_below hb
    exact ⟨he, ⟨d', os ++ os'⟩, gw_gw _ _ _ _ _⟩
theorem Calls.in_gw_same {P : Program} {f : FuncId} {args : Array Value} {w : World} {d : Nat} {os : Array Obj} {v : Value}
    (h : Calls P f args (gw w d os) fun e w' => e = .returned v ∧ gw w d os = w') : Calls P f args (gw w d os) fun e w'' => e = .returned v ∧ InGw w w'' :=
  h.mono fun _ _ ⟨he, hb⟩ => ⟨he, ⟨d, os⟩, hb.symm⟩
/-- .. where the region began behind other calls. -/
theorem Calls.in_gw2 {P : Program} {f : FuncId} {args : Array Value} {w : World} {d0 d : Nat} {os0 os : Array Obj} {v : Value}
    (h : Calls P f args (gw w d (os0 ++ os)) fun e w' => e = .returned v ∧ Below (gw w d (os0 ++ os)).heap.size (gw w d (os0 ++ os)) w') : Calls P f args (gw w d (os0 ++ os)) fun e w'' => e = .returned v ∧ InGw (gw w d0 os0) w'' :=
  h.mono fun _ _ ⟨he, hb⟩ => by
    obtain ⟨d', os', rfl⟩ := gw_of_below hb
    exact ⟨he, ⟨d', os ++ os'⟩, by rw [gw_gw, gw_gw, Array.append_assoc]⟩
theorem Calls.in_gw2_same {P : Program} {f : FuncId} {args : Array Value} {w : World} {d0 d : Nat} {os0 os : Array Obj} {v : Value}
    (h : Calls P f args (gw w d (os0 ++ os)) fun e w' => e = .returned v ∧ gw w d (os0 ++ os) = w') : Calls P f args (gw w d (os0 ++ os)) fun e w'' => e = .returned v ∧ InGw (gw w d0 os0) w'' :=
  h.mono fun _ _ ⟨he, hb⟩ => ⟨he, ⟨d, os⟩, by rw [← hb, gw_gw]⟩
/-- .. outside a region, behind other calls. -/
theorem Calls.next_gw {P : Program} {f : FuncId} {args : Array Value} {w : World} {d : Nat} {os : Array Obj} {v : Value}
    (h : Calls P f args (gw w d os) fun e w' => e = .returned v ∧ Below (gw w d os).heap.size (gw w d os) w') : Calls P f args (gw w d os) fun e w'' => e = .returned v ∧ ∃ d' os', w'' = gw w d' os' :=
  h.mono fun _ _ ⟨he, hb⟩ => by
    obtain ⟨d', os', rfl⟩ := gw_of_below hb
    exact ⟨he, d', os ++ os', gw_gw _ _ _ _ _⟩
/-- .. outside a region. -/
theorem Calls.to_gw {P : Program} {f : FuncId} {args : Array Value} {w : World} {v : Value}
    (h : Calls P f args w fun e w' => e = .returned v ∧ Below w.heap.size w w') : Calls P f args w fun e w'' => e = .returned v ∧ ∃ d os, w'' = gw w d os :=
  h.mono fun _ _ ⟨he, hb⟩ => ⟨he, gw_of_below hb⟩

theorem below_gw' {B : Nat} {a w : World} (h : Below B a w) (hB : B ≤ w.heap.size) (d : Nat) (os : Array Obj) : Below B a (gw w d os) := h.trans ((below_gw w d os).mono hB)

/-- Block g is just the cells cs, of type t, and may be written. -/
def Blk (w : World) (g : Nat) (t : TypeId) (cs : Array Value) : Prop := w.heap[g]? = some (.cells cs t (0, 0))
section
variable {w w' : World} {g : Nat} {t : TypeId} {cs : Array Value}
theorem Blk.lt (h : Blk w g t cs) : g < w.heap.size := by
  rcases Nat.lt_or_ge g w.heap.size with hlt | hge
  · exact hlt
  · unfold Blk at h; rw [Array.getElem?_eq_none hge] at h; cases h
theorem Blk.cell (h : Blk w g t cs) (i : Nat) : w.cell? ⟨g, i, none⟩ = cs[i]? := cell_of_row w g i cs t (0, 0) h
theorem Blk.frozen (h : Blk w g t cs) (i : Nat) : w.frozen? ⟨g, i, none⟩ = false := by
  unfold Blk at h
  simp [World.frozen?, h]
theorem Blk.row (h : Blk w g t cs) (o n : Nat) : rowAt w g o n = cutRow cs o n := by
  unfold Blk at h
  unfold rowAt cutRow
  rw [h]
theorem Blk.noFr (h : Blk w g t cs) : noFr w g = true := by
  unfold Blk at h
  unfold YtfdebdbmdbmbbaaDoor.noFr
  rw [h]; rfl
theorem Blk.new (w : World) (t : TypeId) (cs : Array Value) : Blk (w.alloc (.cells cs t)) w.heap.size t cs := heap_alloc_new w _
theorem Blk.new' (w : World) (g : Nat) (hg : g = w.heap.size) (t : TypeId) (cs : Array Value) : Blk (w.alloc (.cells cs t)) g t cs := by subst hg; exact heap_alloc_new w _
theorem Blk.drew (h : Blk w g t cs) : Blk w.drew g t cs := h
theorem Blk.drewN (h : Blk w g t cs) (n : Nat) : Blk (w.drewN n) g t cs := h
theorem Blk.alloc (h : Blk w g t cs) (o : Obj) : Blk (w.alloc o) g t cs := (Below.heap_alloc w o g h.lt).trans h
theorem Blk.set_ (h : Blk w g t cs) (i : Nat) (u : Value) : Blk (w.setCell ⟨g, i, none⟩ u) g t (cs.setIfInBounds i u) := by
  unfold Blk at h ⊢
  simp [World.setCell, Array.getElem?_modify, h]
theorem Blk.far (h : Blk w g t cs) {p : Addr} (hp : g ≠ p.block) (u : Value) : Blk (w.setCell p u) g t cs := (Below.heap_setCell w p u g hp).trans h
theorem Blk.farS (h : Blk w g t cs) {b : Nat} (hp : g ≠ b) (o : Nat) (l : List Value) : Blk (w.setCells b o l) g t cs := (heap_setCells b l o w g hp).trans h
theorem Blk.below {B : Nat} (h : Blk w g t cs) (hb : Below B w w') (hg : g < B) : Blk w' g t cs := (hb.block g hg).trans h
theorem Blk.gw (h : Blk w g t cs) (d : Nat) (os : Array Obj) : Blk (gw w d os) g t cs := (gw_heap w d os g h.lt).trans h
end

theorem wp_still_tail {P : Program} {id : Nat} {Q : Exit → Act → World → Prop} {a : Act} {w : World} {l : List Oper} (n : Nat) (hm : P.follows .mixedOrders = true) (hB : Region.lexTailB .any l.toArray n = true)
    (h : wpStill P l.toArray w.drew (fun a' => wpList P l.toArray Q (l.drop n) a' w.drew) (l.take n) a) : (Code.region id l.toArray true).wp P Q a w :=
  wp_region_still_tail n hm hB h

theorem ret_bool {a b : Bool} (h : a = b) : Ending.returned (.bool a) = .returned (.bool b) := by rw [h]
theorem ret_int {k : IntKind} {a b : Int} (h : a = b) : Ending.returned (.int k a) = .returned (.int k b) := by rw [h]

end Go.Proofs.YtfdebdbmdbmbbaaDoor
