/- The statements' wakes: it says yes. -/
import Derived.Test.YtfdebdbmdbmbbaaDoorLawA
import Derived.Test.YtfdebdbmdbmbbaaDoorLawB
set_option linter.unusedSimpArgs false
set_option linter.unusedVariables false
namespace Go.Proofs.YtfdebdbmdbmbbaaDoor
open Go.RowKit

theorem SlP.lit (w : World) (t : TypeId) (xs : List Pfx) : SlP (w.alloc (.cells (flat encP xs).toArray t)) (w.alloc (.cells (flat encP xs).toArray t)).heap.size (some ⟨w.heap.size, 0, none⟩) xs := by
  refine .inr ⟨w.heap.size, 0, rfl, by simp, fun i x hx => rowAt_of_cells (encP_length x) (by omega) fun j v hj => ?_⟩
  have hj18 : j < 18 := by rw [← encP_length x]; exact (List.getElem?_eq_some_iff.1 hj).1
  have h := flat_get encP_length xs i x j hx hj18
  simp only [World.cell?, heap_alloc_new]
  simp [h, hj]
theorem SlP.lit1 (w : World) (t : TypeId) (p : Pfx) : SlP (w.alloc (.cells (encP p).toArray t)) (w.alloc (.cells (encP p).toArray t)).heap.size (some ⟨w.heap.size, 0, none⟩) [p] := by
  have := SlP.lit w t [p]
  rw [show flat encP [p] = encP p by simp [flat]] at this
  exact this
theorem SlP.lit2 (w : World) (t : TypeId) (p q : Pfx) : SlP (w.alloc (.cells (encP p ++ encP q).toArray t)) (w.alloc (.cells (encP p ++ encP q).toArray t)).heap.size (some ⟨w.heap.size, 0, none⟩) [p, q] := by
  have := SlP.lit w t [p, q]
  rw [show flat encP [p, q] = encP p ++ encP q by simp [flat]] at this
  exact this
theorem SlP.lit3 (w : World) (t : TypeId) (p q r : Pfx) : SlP (w.alloc (.cells (encP p ++ (encP q ++ encP r)).toArray t)) (w.alloc (.cells (encP p ++ (encP q ++ encP r)).toArray t)).heap.size (some ⟨w.heap.size, 0, none⟩) [p, q, r] := by
  have := SlP.lit w t [p, q, r]
  rw [show flat encP [p, q, r] = encP p ++ (encP q ++ encP r) by simp [flat]] at this
  exact this
theorem one_lit {xs ys : List Pfx} (hx : ∀ p ∈ xs, okP p = true) (hy : Canon ys) (hm : ∀ v x, Mem v x xs ↔ Mem v x ys) : oneL xs = ys :=
  (one_ok xs hx).1.ext hy fun v x => ((one_ok xs hx).2 v x).trans (hm v x)
theorem Mem.cons {v : Int} {x : Nat} {p : Pfx} {l : List Pfx} : Mem v x (p :: l) ↔ inP v x p ∨ Mem v x l := by
  unfold Mem; simp
theorem Mem.nil {v : Int} {x : Nat} : Mem v x [] ↔ False := by unfold Mem; simp
theorem canon1 {p : Pfx} (h : okP p = true) : Canon [p] := ⟨by simpa using h, by simp, by simp [sib]⟩
theorem inP_lit {p : Pfx} (l n : Nat) (hl : lP p = l) (hn : nP p = n) (v : Int) (x : Nat) : inP v x p ↔ p.a.ver = v ∧ x / 2 ^ (128 - l) = n := by unfold inP; rw [hl, hn]

def wa : List Pfx := [fourP 10 128 9, fourP 10 0 9, fourP 10 1 16]
def wb : List Pfx := [fourP 10 0 8]
def wc : List Pfx := [fourP 10 0 10]
def wd : List Pfx := [fourP 10 64 10, fourP 10 128 9]
theorem wa_ok : (wa.any fun p => !okP p) = false := by kernel_rfl
theorem wb_ok : okP (fourP 10 0 8) = true := by kernel_rfl
theorem wc_ok : okP (fourP 10 0 10) = true := by kernel_rfl
theorem wd_ok1 : okP (fourP 10 64 10) = true := by kernel_rfl
theorem wd_ok2 : okP (fourP 10 128 9) = true := by kernel_rfl
theorem all_of_any {xs : List Pfx} (h : (xs.any fun p => !okP p) = false) : ∀ p ∈ xs, okP p = true := fun p hp => by
  have := List.any_eq_false.1 h p hp
  simpa using this
theorem one_wa : oneL wa = wb := by
  refine one_lit (all_of_any wa_ok) (canon1 wb_ok) fun v x => ?_
  unfold wa wb
  simp only [Mem.cons, Mem.nil, or_false]
  rw [inP_lit 9 21 (by kernel_rfl) (by kernel_rfl), inP_lit 9 20 (by kernel_rfl) (by kernel_rfl), inP_lit 16 2561 (by kernel_rfl) (by kernel_rfl), inP_lit 8 10 (by kernel_rfl) (by kernel_rfl)]
  show (4 : Int) = v ∧ _ ∨ (4 : Int) = v ∧ _ ∨ (4 : Int) = v ∧ _ ↔ (4 : Int) = v ∧ _
  omega
theorem canon_wb : Canon wb := canon1 wb_ok
theorem canon_wc : Canon wc := canon1 wc_ok
theorem canon_wd : Canon wd := by
  refine ⟨fun p hp => ?_, ?_, fun p hp q hq h => ?_⟩
  · unfold wd at hp
    rcases List.mem_cons.1 hp with rfl | hp
    · exact wd_ok1
    · rw [List.mem_singleton] at hp; subst hp; exact wd_ok2
  · unfold wd
    refine List.Pairwise.cons (fun q hq => ?_) (by simp)
    rw [List.mem_singleton] at hq; subst hq
    exact .inr ⟨rfl, Nat.le_of_ble_eq_true (by kernel_rfl)⟩
  · have e : ∀ p ∈ wd, (lP p = 10 ∧ nP p = 41) ∨ (lP p = 9 ∧ nP p = 21) := fun p hp => by
      unfold wd at hp
      rcases List.mem_cons.1 hp with rfl | hp
      · exact .inl ⟨by kernel_rfl, by kernel_rfl⟩
      · rw [List.mem_singleton] at hp; subst hp; exact .inr ⟨by kernel_rfl, by kernel_rfl⟩
    have h1 := e p hp
    have h2 := e q hq
    unfold sib at h
    omega
theorem minus_wd : minusR wb wc = wd := by
  obtain ⟨h1, h2⟩ := minusR_ok canon_wb canon_wc
  refine h1.ext canon_wd fun v x => ?_
  rw [h2]
  unfold wb wc wd
  simp only [Mem.cons, Mem.nil, or_false]
  rw [inP_lit 8 10 (by kernel_rfl) (by kernel_rfl), inP_lit 10 40 (by kernel_rfl) (by kernel_rfl), inP_lit 10 41 (by kernel_rfl) (by kernel_rfl), inP_lit 9 21 (by kernel_rfl) (by kernel_rfl)]
  show ((4 : Int) = v ∧ _) ∧ ¬ ((4 : Int) = v ∧ _) ↔ (4 : Int) = v ∧ _ ∨ (4 : Int) = v ∧ _
  omega

/-GEN
N P|[]api.Prefix|junctionbox/api.Prefix|18|2
N P|[]api.Prefix|junctionbox/api.Prefix|18|3
-/
theorem bskP_2 (w : World) (c0_0 c0_1 c0_2 c0_3 c0_4 c0_5 c0_6 c0_7 c0_8 c0_9 c0_10 c0_11 c0_12 c0_13 c0_14 c0_15 c0_16 c0_17 c1_0 c1_1 c1_2 c1_3 c1_4 c1_5 c1_6 c1_7 c1_8 c1_9 c1_10 c1_11 c1_12 c1_13 c1_14 c1_15 c1_16 c1_17 : Value) : (Instr.buildSlice 22 2 #[(0, .agg #[c0_0, c0_1, c0_2, c0_3, c0_4, c0_5, c0_6, c0_7, c0_8, c0_9, c0_10, c0_11, c0_12, c0_13, c0_14, c0_15, c0_16, c0_17]), (1, .agg #[c1_0, c1_1, c1_2, c1_3, c1_4, c1_5, c1_6, c1_7, c1_8, c1_9, c1_10, c1_11, c1_12, c1_13, c1_14, c1_15, c1_16, c1_17])]).run Tryd.prog w = .ok (.slice (some ⟨w.heap.size, 0, none⟩) 2 2) (w.alloc (.cells #[c0_0, c0_1, c0_2, c0_3, c0_4, c0_5, c0_6, c0_7, c0_8, c0_9, c0_10, c0_11, c0_12, c0_13, c0_14, c0_15, c0_16, c0_17, c1_0, c1_1, c1_2, c1_3, c1_4, c1_5, c1_6, c1_7, c1_8, c1_9, c1_10, c1_11, c1_12, c1_13, c1_14, c1_15, c1_16, c1_17] 35)) := by kernel_rfl
@[go_sem ↓] theorem bsP_2 (ev : Operand → Value) (d : Option Tmp) (x0 x1 : Operand) (ty : TypeId) (pos : String) (af : Array Edge) (g : Option (Nat × Bool)) (w : World) (h0 : (aggL (ev x0)).length = 18) (h1 : (aggL (ev x1)).length = 18) :
    (execOp ev ⟨d, .buildSlice 22 2 #[(0, x0), (1, x1)], ty, pos, af, g⟩).run Tryd.prog w = .ok (.value (.slice (some ⟨w.heap.size, 0, none⟩) 2 2)) (w.alloc (.cells (aggL (ev x0) ++ aggL (ev x1)).toArray 35)) := by
  obtain ⟨l0, e0, k0⟩ := aggL_some (by omega) h0
  obtain ⟨c0_0, c0_1, c0_2, c0_3, c0_4, c0_5, c0_6, c0_7, c0_8, c0_9, c0_10, c0_11, c0_12, c0_13, c0_14, c0_15, c0_16, c0_17, rfl⟩ : ∃ c0_0 c0_1 c0_2 c0_3 c0_4 c0_5 c0_6 c0_7 c0_8 c0_9 c0_10 c0_11 c0_12 c0_13 c0_14 c0_15 c0_16 c0_17 : Value, l0 = [c0_0, c0_1, c0_2, c0_3, c0_4, c0_5, c0_6, c0_7, c0_8, c0_9, c0_10, c0_11, c0_12, c0_13, c0_14, c0_15, c0_16, c0_17] := by
    match l0, k0 with
    | [c0_0, c0_1, c0_2, c0_3, c0_4, c0_5, c0_6, c0_7, c0_8, c0_9, c0_10, c0_11, c0_12, c0_13, c0_14, c0_15, c0_16, c0_17], _ => exact ⟨c0_0, c0_1, c0_2, c0_3, c0_4, c0_5, c0_6, c0_7, c0_8, c0_9, c0_10, c0_11, c0_12, c0_13, c0_14, c0_15, c0_16, c0_17, rfl⟩
  obtain ⟨l1, e1, k1⟩ := aggL_some (by omega) h1
  obtain ⟨c1_0, c1_1, c1_2, c1_3, c1_4, c1_5, c1_6, c1_7, c1_8, c1_9, c1_10, c1_11, c1_12, c1_13, c1_14, c1_15, c1_16, c1_17, rfl⟩ : ∃ c1_0 c1_1 c1_2 c1_3 c1_4 c1_5 c1_6 c1_7 c1_8 c1_9 c1_10 c1_11 c1_12 c1_13 c1_14 c1_15 c1_16 c1_17 : Value, l1 = [c1_0, c1_1, c1_2, c1_3, c1_4, c1_5, c1_6, c1_7, c1_8, c1_9, c1_10, c1_11, c1_12, c1_13, c1_14, c1_15, c1_16, c1_17] := by
    match l1, k1 with
    | [c1_0, c1_1, c1_2, c1_3, c1_4, c1_5, c1_6, c1_7, c1_8, c1_9, c1_10, c1_11, c1_12, c1_13, c1_14, c1_15, c1_16, c1_17], _ => exact ⟨c1_0, c1_1, c1_2, c1_3, c1_4, c1_5, c1_6, c1_7, c1_8, c1_9, c1_10, c1_11, c1_12, c1_13, c1_14, c1_15, c1_16, c1_17, rfl⟩
  unfold execOp
  simp [e0, e1, bskP_2 w c0_0 c0_1 c0_2 c0_3 c0_4 c0_5 c0_6 c0_7 c0_8 c0_9 c0_10 c0_11 c0_12 c0_13 c0_14 c0_15 c0_16 c0_17 c1_0 c1_1 c1_2 c1_3 c1_4 c1_5 c1_6 c1_7 c1_8 c1_9 c1_10 c1_11 c1_12 c1_13 c1_14 c1_15 c1_16 c1_17, aggL]
theorem bskP_3 (w : World) (c0_0 c0_1 c0_2 c0_3 c0_4 c0_5 c0_6 c0_7 c0_8 c0_9 c0_10 c0_11 c0_12 c0_13 c0_14 c0_15 c0_16 c0_17 c1_0 c1_1 c1_2 c1_3 c1_4 c1_5 c1_6 c1_7 c1_8 c1_9 c1_10 c1_11 c1_12 c1_13 c1_14 c1_15 c1_16 c1_17 c2_0 c2_1 c2_2 c2_3 c2_4 c2_5 c2_6 c2_7 c2_8 c2_9 c2_10 c2_11 c2_12 c2_13 c2_14 c2_15 c2_16 c2_17 : Value) : (Instr.buildSlice 22 3 #[(0, .agg #[c0_0, c0_1, c0_2, c0_3, c0_4, c0_5, c0_6, c0_7, c0_8, c0_9, c0_10, c0_11, c0_12, c0_13, c0_14, c0_15, c0_16, c0_17]), (1, .agg #[c1_0, c1_1, c1_2, c1_3, c1_4, c1_5, c1_6, c1_7, c1_8, c1_9, c1_10, c1_11, c1_12, c1_13, c1_14, c1_15, c1_16, c1_17]), (2, .agg #[c2_0, c2_1, c2_2, c2_3, c2_4, c2_5, c2_6, c2_7, c2_8, c2_9, c2_10, c2_11, c2_12, c2_13, c2_14, c2_15, c2_16, c2_17])]).run Tryd.prog w = .ok (.slice (some ⟨w.heap.size, 0, none⟩) 3 3) (w.alloc (.cells #[c0_0, c0_1, c0_2, c0_3, c0_4, c0_5, c0_6, c0_7, c0_8, c0_9, c0_10, c0_11, c0_12, c0_13, c0_14, c0_15, c0_16, c0_17, c1_0, c1_1, c1_2, c1_3, c1_4, c1_5, c1_6, c1_7, c1_8, c1_9, c1_10, c1_11, c1_12, c1_13, c1_14, c1_15, c1_16, c1_17, c2_0, c2_1, c2_2, c2_3, c2_4, c2_5, c2_6, c2_7, c2_8, c2_9, c2_10, c2_11, c2_12, c2_13, c2_14, c2_15, c2_16, c2_17] 35)) := by kernel_rfl
@[go_sem ↓] theorem bsP_3 (ev : Operand → Value) (d : Option Tmp) (x0 x1 x2 : Operand) (ty : TypeId) (pos : String) (af : Array Edge) (g : Option (Nat × Bool)) (w : World) (h0 : (aggL (ev x0)).length = 18) (h1 : (aggL (ev x1)).length = 18) (h2 : (aggL (ev x2)).length = 18) :
    (execOp ev ⟨d, .buildSlice 22 3 #[(0, x0), (1, x1), (2, x2)], ty, pos, af, g⟩).run Tryd.prog w = .ok (.value (.slice (some ⟨w.heap.size, 0, none⟩) 3 3)) (w.alloc (.cells (aggL (ev x0) ++ aggL (ev x1) ++ aggL (ev x2)).toArray 35)) := by
  obtain ⟨l0, e0, k0⟩ := aggL_some (by omega) h0
  obtain ⟨c0_0, c0_1, c0_2, c0_3, c0_4, c0_5, c0_6, c0_7, c0_8, c0_9, c0_10, c0_11, c0_12, c0_13, c0_14, c0_15, c0_16, c0_17, rfl⟩ : ∃ c0_0 c0_1 c0_2 c0_3 c0_4 c0_5 c0_6 c0_7 c0_8 c0_9 c0_10 c0_11 c0_12 c0_13 c0_14 c0_15 c0_16 c0_17 : Value, l0 = [c0_0, c0_1, c0_2, c0_3, c0_4, c0_5, c0_6, c0_7, c0_8, c0_9, c0_10, c0_11, c0_12, c0_13, c0_14, c0_15, c0_16, c0_17] := by
    match l0, k0 with
    | [c0_0, c0_1, c0_2, c0_3, c0_4, c0_5, c0_6, c0_7, c0_8, c0_9, c0_10, c0_11, c0_12, c0_13, c0_14, c0_15, c0_16, c0_17], _ => exact ⟨c0_0, c0_1, c0_2, c0_3, c0_4, c0_5, c0_6, c0_7, c0_8, c0_9, c0_10, c0_11, c0_12, c0_13, c0_14, c0_15, c0_16, c0_17, rfl⟩
  obtain ⟨l1, e1, k1⟩ := aggL_some (by omega) h1
  obtain ⟨c1_0, c1_1, c1_2, c1_3, c1_4, c1_5, c1_6, c1_7, c1_8, c1_9, c1_10, c1_11, c1_12, c1_13, c1_14, c1_15, c1_16, c1_17, rfl⟩ : ∃ c1_0 c1_1 c1_2 c1_3 c1_4 c1_5 c1_6 c1_7 c1_8 c1_9 c1_10 c1_11 c1_12 c1_13 c1_14 c1_15 c1_16 c1_17 : Value, l1 = [c1_0, c1_1, c1_2, c1_3, c1_4, c1_5, c1_6, c1_7, c1_8, c1_9, c1_10, c1_11, c1_12, c1_13, c1_14, c1_15, c1_16, c1_17] := by
    match l1, k1 with
    | [c1_0, c1_1, c1_2, c1_3, c1_4, c1_5, c1_6, c1_7, c1_8, c1_9, c1_10, c1_11, c1_12, c1_13, c1_14, c1_15, c1_16, c1_17], _ => exact ⟨c1_0, c1_1, c1_2, c1_3, c1_4, c1_5, c1_6, c1_7, c1_8, c1_9, c1_10, c1_11, c1_12, c1_13, c1_14, c1_15, c1_16, c1_17, rfl⟩
  obtain ⟨l2, e2, k2⟩ := aggL_some (by omega) h2
  obtain ⟨c2_0, c2_1, c2_2, c2_3, c2_4, c2_5, c2_6, c2_7, c2_8, c2_9, c2_10, c2_11, c2_12, c2_13, c2_14, c2_15, c2_16, c2_17, rfl⟩ : ∃ c2_0 c2_1 c2_2 c2_3 c2_4 c2_5 c2_6 c2_7 c2_8 c2_9 c2_10 c2_11 c2_12 c2_13 c2_14 c2_15 c2_16 c2_17 : Value, l2 = [c2_0, c2_1, c2_2, c2_3, c2_4, c2_5, c2_6, c2_7, c2_8, c2_9, c2_10, c2_11, c2_12, c2_13, c2_14, c2_15, c2_16, c2_17] := by
    match l2, k2 with
    | [c2_0, c2_1, c2_2, c2_3, c2_4, c2_5, c2_6, c2_7, c2_8, c2_9, c2_10, c2_11, c2_12, c2_13, c2_14, c2_15, c2_16, c2_17], _ => exact ⟨c2_0, c2_1, c2_2, c2_3, c2_4, c2_5, c2_6, c2_7, c2_8, c2_9, c2_10, c2_11, c2_12, c2_13, c2_14, c2_15, c2_16, c2_17, rfl⟩
  unfold execOp
  simp [e0, e1, e2, bskP_3 w c0_0 c0_1 c0_2 c0_3 c0_4 c0_5 c0_6 c0_7 c0_8 c0_9 c0_10 c0_11 c0_12 c0_13 c0_14 c0_15 c0_16 c0_17 c1_0 c1_1 c1_2 c1_3 c1_4 c1_5 c1_6 c1_7 c1_8 c1_9 c1_10 c1_11 c1_12 c1_13 c1_14 c1_15 c1_16 c1_17 c2_0 c2_1 c2_2 c2_3 c2_4 c2_5 c2_6 c2_7 c2_8 c2_9 c2_10 c2_11 c2_12 c2_13 c2_14 c2_15 c2_16 c2_17, aggL]
--END GEN
theorem four_at (a b : UInt8) (x y : Int) (n : Int) (hx : x = (a.toNat : Int)) (hy : y = (b.toNat : Int)) (w : World) :
    Calls Tryd.prog 14 #[.int .u8 x, .int .u8 y, .int .i64 n] w fun e w' => e = .returned (.agg (encP (fourP a b n)).toArray) ∧ ∃ d os, w' = gw w d os := by
  subst hx; subst hy
  exact Calls.to_gw (four_any a b n w)

theorem four_gw (a b : UInt8) (x y : Int) (n : Int) (hx : x = (a.toNat : Int)) (hy : y = (b.toNat : Int)) (w : World) (d : Nat) (os : Array Obj) :
    Calls Tryd.prog 14 #[.int .u8 x, .int .u8 y, .int .i64 n] (gw w d os) fun e w' => e = .returned (.agg (encP (fourP a b n)).toArray) ∧ ∃ d os, w' = gw w d os := by
  subst hx; subst hy
  exact Calls.next_gw (four_any a b n _)
theorem minus_w (hb : (minusL wb wc).length ≤ 500000 ∧ (oneL (minusL wb wc)).length ≤ 300) (A B : Option Addr) (c d : Nat) (w : World) (hgl : Glob w) (hs : SlP w w.heap.size A wb) (hs2 : SlP w w.heap.size B wc) (hA : A = none → c = 0) (hB : B = none → d = 0) :
    Calls Tryd.prog 8 #[.slice A 1 c, .slice B 1 d] w fun e w' => ∃ A' m c', e = .returned (.tuple #[.slice A' m c', .int .i64 0]) ∧ m = wd.length ∧ SlP w' w'.heap.size A' wd ∧ Below w.heap.size w w' := by
  refine (minus_any (n := 1) (m := 1) rfl rfl hgl canon_wb canon_wc (by omega) (by omega) hs hs2 hA hB hb.1).mono ?_
  rintro e w' (⟨h, _⟩ | ⟨_, A', m, c', h1, h2, h3, h4, _⟩)
  · have := hb.2; omega
  · have e1 : oneL (minusL wb wc) = wd := minus_wd
    rw [e1] at h2 h3
    exact ⟨A', m, c', h1, h2, h3, h4⟩

set_option maxRecDepth 100000 in
set_option maxHeartbeats 2000000 in
theorem wakes_any (w : World) (hgl : Glob w) :
    Calls Tryd.prog 5 #[] w fun e w' => e = .returned (.bool true) ∧ Below w.heap.size w w' := by
  have f1 := four_at 10 128 10 128 9 rfl rfl w
  have f2 := fun d os => four_gw 10 0 10 0 9 rfl rfl w d os
  have f3 := fun d os => four_gw 10 1 10 1 16 rfl rfl w d os
  go_enter Tryd.func5, Tryd.ntmps5
  go_wp2_with fail
  (with_reducible refine f1.mono ?_)
  clear f1
  rintro e w1 ⟨rfl, d1, os1, rfl⟩
  go_wp2_with fail
  (with_reducible refine (f2 _ _).mono ?_)
  clear f2
  rintro e w1 ⟨rfl, d2, os2, rfl⟩
  go_wp2_with fail
  (with_reducible refine (f3 _ _).mono ?_)
  clear f3
  rintro e w1 ⟨rfl, d3, os3, rfl⟩
  go_wp2_with fail
  have hbW : Below w.heap.size w ((gw w d3 os3).alloc (.cells (encP (fourP 10 128 9) ++ (encP (fourP 10 0 9) ++ encP (fourP 10 1 16))).toArray 35)) := (below_gw w d3 os3).alloc (by rw [gw_size]; omega) _
  have co := oneOk_any wa (some ⟨w.heap.size + os3.size, 0, none⟩) 3 3 ((gw w d3 os3).alloc (.cells (encP (fourP 10 128 9) ++ (encP (fourP 10 0 9) ++ encP (fourP 10 1 16))).toArray 35)) rfl (hgl.below hbW) wa_ok (by omega) (by have := SlP.lit3 (gw w d3 os3) 35 (fourP 10 128 9) (fourP 10 0 9) (fourP 10 1 16); rw [gw_size] at this; exact this) (fun h => by cases h)
  rw [one_wa] at co
  (with_reducible refine co.mono ?_)
  clear co
  rintro e w2 ⟨A2, m2, c2, rfl, hm2, hs2, hb2, hA2⟩
  obtain rfl : m2 = 1 := hm2
  have hbw2 := hbW.trans (hb2.mono hbW.size)
  have Hb2 := Lib.hid hbw2
  have Hs2 := Lib.hid (And.intro hs2 hA2)
  have hg2 := Lib.hid (hgl.below hbw2)
  have f4 := four_at 10 0 10 0 8 rfl rfl w2
  clear hbW hb2 hbw2 hs2 hA2
  go_wp2_with fail
  (with_reducible refine f4.mono ?_)
  clear f4
  rintro e w3 ⟨rfl, d4, os4, rfl⟩
  have hb5 : Below w2.heap.size w2 ((gw w2 d4 os4).alloc (.cells (encP (fourP 10 0 8)).toArray 35)) := (below_gw w2 d4 os4).alloc (by rw [gw_size]; omega) _
  have hz5 : ((gw w2 d4 os4).alloc (.cells (encP (fourP 10 0 8)).toArray 35)).heap.size = w2.heap.size + os4.size + 1 := by simp [gw_size]
  obtain ⟨w5, hw5⟩ : ∃ w5, w5 = (gw w2 d4 os4).alloc (.cells (encP (fourP 10 0 8)).toArray 35) := ⟨_, rfl⟩
  have hs5 : SlP w5 w5.heap.size (some ⟨w2.heap.size + os4.size, 0, none⟩) wb := by
    have := SlP.lit1 (gw w2 d4 os4) 35 (fourP 10 0 8)
    rw [gw_size] at this
    rw [hw5]; exact this
  rw [← hw5] at hb5 hz5
  have f6 := four_at 10 0 10 0 10 rfl rfl w5
  rw [hw5] at f6
  have Hw5 := Lib.hid hw5
  have Hs5 := Lib.hid hs5
  have Hb5 := Lib.hid hb5
  have Hz5 := Lib.hid hz5
  clear hw5 hs5 hb5 hz5
  go_wp2_with fail
  (with_reducible refine f6.mono ?_)
  clear f6
  rw [← Hw5.out]
  rintro e w6 ⟨rfl, d6, os6, rfl⟩
  have hb7 : Below w5.heap.size w5 ((gw w5 d6 os6).alloc (.cells (encP (fourP 10 0 10)).toArray 35)) := (below_gw w5 d6 os6).alloc (by rw [gw_size]; omega) _
  have hs7 : SlP ((gw w5 d6 os6).alloc (.cells (encP (fourP 10 0 10)).toArray 35)) ((gw w5 d6 os6).alloc (.cells (encP (fourP 10 0 10)).toArray 35)).heap.size (some ⟨w5.heap.size + os6.size, 0, none⟩) wc := by
    have := SlP.lit1 (gw w5 d6 os6) 35 (fourP 10 0 10)
    rw [gw_size] at this
    exact this
  have hb57 := Hb2.out.trans ((Hb5.out.trans (hb7.mono Hb5.out.size)).mono Hb2.out.size)
  have hml := (minusL_ok canon_wb.ok canon_wc.ok).2.2
  have hol := oneL_len (minusL wb wc)
  have cm := minus_w ⟨by have : wb.length * (1 + 129 * wc.length) = 130 := rfl; omega, by have : wb.length * (1 + 129 * wc.length) = 130 := rfl; omega⟩ (some ⟨w2.heap.size + os4.size, 0, none⟩) (some ⟨w5.heap.size + os6.size, 0, none⟩) 1 1 _ (hgl.below hb57) ((Hs5.out.below hb7 (Nat.le_refl _)).more hb7.size) hs7 (fun h => by cases h) (fun h => by cases h)
  have Hb7 := Lib.hid hb7
  have Hb57 := Lib.hid hb57
  clear hb7 hs7 hb57 hml hol
  go_wp2_with fail
  (with_reducible refine cm.mono ?_)
  clear cm
  rintro e w8 ⟨A8, m8, c8, rfl, hm8, hs8, hb8⟩
  obtain rfl : m8 = 2 := hm8
  have hb28 := ((Hb5.out.trans (Hb7.out.mono Hb5.out.size)).trans (hb8.mono (Hb5.out.trans (Hb7.out.mono Hb5.out.size)).size))
  have hbw8 := Hb2.out.trans (hb28.mono Hb2.out.size)
  have hs2' := (Hs2.out.1.below hb28 (Nat.le_refl _)).more hb28.size
  have f9 := four_at 10 0 10 0 8 rfl rfl w8
  have Hb8 := Lib.hid hbw8
  have Hs8 := Lib.hid (And.intro hs8 hs2')
  clear hb28 hbw8 hs2' hs8 hb8 Hz5 Hs5 Hw5 Hb57 Hb7 Hs2 Hb5
  go_wp2_with fail
  (with_reducible refine f9.mono ?_)
  clear f9
  rintro e w9 ⟨rfl, d9, os9, rfl⟩
  have hb10 : Below w8.heap.size w8 ((gw w8 d9 os9).alloc (.cells (encP (fourP 10 0 8)).toArray 35)) := (below_gw w8 d9 os9).alloc (by rw [gw_size]; omega) _
  have cs := same_any wb wb A2 (some ⟨w8.heap.size + os9.size, 0, none⟩) c2 1 ((gw w8 d9 os9).alloc (.cells (encP (fourP 10 0 8)).toArray 35)) ((Hs8.out.2.below hb10 (Nat.le_refl _)).more hb10.size) (by
    have := SlP.lit1 (gw w8 d9 os9) 35 (fourP 10 0 8)
    rw [gw_size] at this
    exact this) (by show 1 < _; omega) (by show 1 < _; omega)
  have hd1 : decide (wb = wb) = true := by simp
  rw [hd1, show wb.length = 1 from rfl] at cs
  have Hb10 := Lib.hid hb10
  clear hb10 hd1
  go_wp2_with fail
  (with_reducible refine cs.mono ?_)
  clear cs
  rintro e w11 ⟨rfl, hb11⟩
  have hb811 := Hb10.out.trans (hb11.mono Hb10.out.size)
  have Hs11 := Lib.hid ((Hs8.out.1.below hb811 (Nat.le_refl _)).more hb811.size)
  have Hb11 := Lib.hid (Hb8.out.trans (hb811.mono Hb8.out.size))
  have g1 := four_at 10 64 10 64 10 rfl rfl w11
  have g2 := fun d os => four_gw 10 128 10 128 9 rfl rfl w11 d os
  clear hb11 hb811 Hs8 Hb8 Hb10
  go_wp2_with fail
  (with_reducible refine g1.mono ?_)
  clear g1
  rintro e w12 ⟨rfl, d12, os12, rfl⟩
  go_wp2_with fail
  (with_reducible refine (g2 _ _).mono ?_)
  clear g2
  rintro e w12 ⟨rfl, d13, os13, rfl⟩
  have hb13 : Below w11.heap.size w11 ((gw w11 d13 os13).alloc (.cells (encP (fourP 10 64 10) ++ encP (fourP 10 128 9)).toArray 35)) := (below_gw w11 d13 os13).alloc (by rw [gw_size]; omega) _
  have cs := same_any wd wd A8 (some ⟨w11.heap.size + os13.size, 0, none⟩) c8 2 ((gw w11 d13 os13).alloc (.cells (encP (fourP 10 64 10) ++ encP (fourP 10 128 9)).toArray 35)) ((Hs11.out.below hb13 (Nat.le_refl _)).more hb13.size) (by
    have := SlP.lit2 (gw w11 d13 os13) 35 (fourP 10 64 10) (fourP 10 128 9)
    rw [gw_size] at this
    exact this) (by show 2 < _; omega) (by show 2 < _; omega)
  have hd1 : decide (wd = wd) = true := by simp
  rw [hd1, show wd.length = 2 from rfl] at cs
  have Hb13 := Lib.hid hb13
  clear hb13 hd1
  go_wp2_with fail
  (with_reducible refine cs.mono ?_)
  clear cs
  rintro e w14 ⟨rfl, hb14⟩
  have Hfin := Lib.hid (Hb11.out.trans ((Hb13.out.trans (hb14.mono Hb13.out.size)).mono Hb11.out.size))
  clear hb14
  go_wp2
  go_ret
  exact ⟨rfl, Hfin.out⟩

end Go.Proofs.YtfdebdbmdbmbbaaDoor
