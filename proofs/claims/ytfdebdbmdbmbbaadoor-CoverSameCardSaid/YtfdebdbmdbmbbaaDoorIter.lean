/- Iterators over prefixes: slices.Values's closure, cover.collected: by contract. -/
import Derived.RangeFuncNested
import Derived.RangeFuncBound
import Derived.RangeFuncCalls
import Derived.RangeFuncLeaves
import Derived.RangeFuncBox
import Derived.Shelf.Abstract
import Derived.Shelf.RegionOpen
import Derived.OwnWalkIn
import Derived.TacticsInMore
import Derived.LoopNIn
import Derived.LoopIn
import Derived.Maps.AppendAt
import Derived.Maps.OwnIn
import Derived.Test.YtfdebdbmdbmbbaaDoorTypes
import Derived.Test.YtfdebdbmdbmbbaaDoorSlice
import Derived.Lib.Hide
set_option linter.unusedSimpArgs false
set_option linter.unusedVariables false
namespace Go.Proofs.YtfdebdbmdbmbbaaDoor
open Go.RowKit Go.Shelf

attribute [local go_sem] Oper.semAt_some

section
variable (r : Option Nat) (ev : Operand → Value) (d : Option Tmp) (x y : Operand) (ty t : TypeId) (pos : String) (af : Array Edge) (g : Option (Nat × Bool)) (P : Program) (w : World)
theorem semAt_ex {r : Option Nat} {ev : Operand → Value} {o : Oper} (h : ∀ c, o.op ≠ .defer c) : Oper.semAt r ev o = execOp ev o := Oper.semAt_eq r ev o h
@[go_sem ↓] theorem semAt_load : (Oper.semAt r ev ⟨d, .load t x, ty, pos, af, g⟩).run P w = (execOp ev ⟨d, .load t x, ty, pos, af, g⟩).run P w := by rw [semAt_ex (by intro c h; cases h)]
@[go_sem ↓] theorem semAt_store : (Oper.semAt r ev ⟨d, .store t x y, ty, pos, af, g⟩).run P w = (execOp ev ⟨d, .store t x y, ty, pos, af, g⟩).run P w := by rw [semAt_ex (by intro c h; cases h)]
@[go_sem ↓] theorem semAt_alloc : (Oper.semAt r ev ⟨d, .alloc t, ty, pos, af, g⟩).run P w = (execOp ev ⟨d, .alloc t, ty, pos, af, g⟩).run P w := by rw [semAt_ex (by intro c h; cases h)]
@[go_sem ↓] theorem semAt_box : (Oper.semAt r ev ⟨d, .box t x, ty, pos, af, g⟩).run P w = (execOp ev ⟨d, .box t x, ty, pos, af, g⟩).run P w := by rw [semAt_ex (by intro c h; cases h)]
@[go_sem ↓] theorem semAt_bs (k : Nat) (es : Array (Nat × Operand)) : (Oper.semAt r ev ⟨d, .buildSlice t k es, ty, pos, af, g⟩).run P w = (execOp ev ⟨d, .buildSlice t k es, ty, pos, af, g⟩).run P w := by rw [semAt_ex (by intro c h; cases h)]
end
def upto {α : Type} (f : Nat → α) (k : Nat) : List α := (List.range k).map f
theorem upto_succ {α : Type} (f : Nat → α) (k : Nat) : upto f (k + 1) = upto f k ++ [f k] := by simp [upto, List.range_succ]
theorem upto_length {α : Type} (f : Nat → α) (k : Nat) : (upto f k).length = k := by simp [upto]
theorem upto_take {α : Type} (d : α) (zs : List α) {k : Nat} (hk : k ≤ zs.length) : upto (fun j => zs[j]?.getD d) k = zs.take k := by
  apply List.ext_getElem
  · simp [upto, hk]
  · intro i h1 h2
    have : i < zs.length := by simp [upto] at h1; omega
    simp [upto, this]
def seqP (x : Pfx) : Array Value := #[.agg (encP x).toArray]

set_option maxRecDepth 100000 in
set_option maxHeartbeats 2000000 in
/-- slices.Values's closure at a row of prefixes. -/
theorem values1_in (F : Fence) (n : Nat) (hF : F.fn 37) (hro : F.round = none) (hn : 1 ≤ n) (l Bs n₀ len cap : Nat) (A : Option Addr) (zs : List Pfx) (hlen : len = zs.length) (hreach : len ≤ 1000000) (J Jx : List Pfx → World → Prop)
    (hY : ∀ pre x W, J pre W → pre.length < len → YieldAt F (n - 1) Tryd.prog l (seqP x) W fun e W' =>
      (e = .returned (.bool true) ∧ J (pre ++ [x]) W' ∧ Below n₀ W W') ∨ (e = .returned (.bool false) ∧ Jx (pre ++ [x]) W'))
    (W : World) (hJa : AbidesFrom W.heap.size J) (hnW : n₀ ≤ W.heap.size) (hBs : W.cell? ⟨Bs, 0, none⟩ = some (.slice A len cap)) (hc : SlR encP 18 W n₀ A zs) (h0 : J [] W) :
    CallsIn F n Tryd.prog 37 #[.func (.yield l) #[] #[], .pointer (some ⟨Bs, 0, none⟩)] W fun e W' => (∃ v, e = .returned v) ∧
      ((∃ ys, ys = zs ∧ J ys W') ∨ (∃ pre, pre <+: zs ∧ Jx pre W')) := by
  refine callsIn_of_wp Tryd.func37 rfl hF ?_ hro
  simp only [Tryd.ntmps37, List.size_toArray, List.length_cons, List.length_nil, Nat.reduceAdd, Nat.reduceSub, Array.replicate_succ, Array.replicate_zero, List.push_toArray, List.append_toArray, List.nil_append, List.cons_append]
  gi_wp2
  gi_loopw [7] (fun i wr => ∃ k : Nat, k ≤ len ∧ i = .int .i64 k ∧ J (upto (fun j => zs[j]?.getD pfx0) k) wr ∧ Below n₀ W wr)
    (fun i _ => len - (intOf i).toNat)
  case atStart => exact ⟨0, Nat.zero_le _, rfl, h0, Below.refl _ _⟩
  case round =>
    obtain ⟨k, hk, rfl, hJs, hnx⟩ := hrel
    by_cases hlt : k < len
    · obtain ⟨x, hx⟩ : ∃ x, zs[k]? = some x := ⟨_, List.getElem?_eq_getElem (by omega)⟩
      obtain ⟨b, o, hAs, hbs, hrow⟩ := (hc.below hnx (Nat.le_refl _)).get hx
      subst hAs
      have hsz : n₀ ≤ wr.heap.size := by have := hnx.size; omega
      have hJ1 : J (upto (fun j => zs[j]?.getD pfx0) k) (wr.alloc (.cells (encP x).toArray 35)) := hJa _ _ _ none hJs (World.grownBy_alloc _ _ _) (fun r e => by cases e)
      obtain ⟨fn, tmps, assign, body, hy, hR⟩ := hY _ x _ hJ1 (by rw [upto_length]; exact hlt)
      dsimp only [seqP] at hy
      have hget : zs[k]?.getD pfx0 = x := by rw [hx]; rfl
      have hu : upto (fun j => zs[j]?.getD pfx0) (k + 1) = upto (fun j => zs[j]?.getD pfx0) k ++ [x] := by rw [upto_succ, hget]
      have Hu := Lib.hid hu
      have hnx2 : Below n₀ W (wr.alloc (.cells (encP x).toArray 35)) := hnx.alloc hsz _
      clear hget hu hx
      gi_wp2
      refine hR.mono ?_
      rintro e W3 (⟨rfl, hJ3, hk3⟩ | ⟨rfl, hJx3⟩)
      · gi_wp2
        go_roundw
        case rel => exact ⟨k + 1, by omega, by simp, by rw [Hu.out]; exact hJ3, hnx2.trans hk3⟩
        case measure => simp [intOf]; omega
      · gi_wp2
        refine bodyPost_ret (results_none rfl _ _ _) rfl ?_
        exact ⟨⟨_, rfl⟩, .inr ⟨_, by rw [← Hu.out, upto_take _ _ (by omega)]; exact List.take_prefix _ _, hJx3⟩⟩
    · obtain rfl : k = len := by omega
      gi_wp2
      go_end0
      exact ⟨⟨_, rfl⟩, .inl ⟨_, by rw [hlen, upto_take _ _ (Nat.le_refl _), List.take_length], hJs⟩⟩

set_option maxHeartbeats 1000000 in
/-- slices.Values: the slice value is boxed; the function value captures the box. -/
theorem values_in (F : Fence) (n : Nat) (hF : F.fn 26) (hro : F.round = none) (a : Option Addr) (len cap : Nat) (w : World) :
    CallsIn F n Tryd.prog 26 #[.slice a len cap] w fun e w' => e = .returned (.func (.func 37) #[] #[.pointer (some ⟨w.heap.size, 0, none⟩)]) ∧ w' = w.alloc (.cells #[.slice a len cap] 22) := by
  refine callsIn_of_wp Tryd.func26 rfl hF ?_ hro
  simp only [Tryd.ntmps26, List.size_toArray, List.length_cons, List.length_nil, Nat.reduceAdd, Nat.reduceSub, Array.replicate_succ, Array.replicate_zero, List.push_toArray, List.append_toArray, List.nil_append, List.cons_append]
  gi_wp2
  go_ret
  exact ⟨rfl, rfl⟩

theorem values_stops (F : Fence) (n : Nat) (hF : F.fn 37) (hro : F.round = none) (hn : 1 ≤ n) (Bs n₀ len cap : Nat) (A : Option Addr) (zs : List Pfx) (hlen : len = zs.length) (hreach : len ≤ 1000000) (w : World) (hBs : Bs < w.heap.size) (hn₀ : n₀ ≤ w.heap.size)
    (hc : w.cell? ⟨Bs, 0, none⟩ = some (.slice A len cap)) (hI : SlR encP 18 w n₀ A zs) :
    SeqStopsK F n Tryd.prog 37 #[.pointer (some ⟨Bs, 0, none⟩)] seqP (Below n₀) (fun ys => ys = zs) (fun pre => pre <+: zs) len w := fun l J Jx W hW hJ _ hY h0 =>
  values1_in F n hF hro hn l Bs n₀ len cap A zs hlen hreach J Jx hY W hJ (Nat.le_trans hn₀ hW.size) ((hW.cell (p := ⟨Bs, 0, none⟩) hBs).trans hc) (hI.below (hW.mono hn₀) (Nat.le_refl _)) h0


/-- The block that the collector's row owns: B0 is the box of its slice. -/
def ownAt (B0 : Nat) (W : World) : Option Nat := (W.cell? ⟨B0, 0, none⟩).bind Value.ownBlock
def Good (B0 : Nat) (W : World) : Prop := (∃ v, W.cell? ⟨B0, 0, none⟩ = some v) ∧ ∀ b, ownAt B0 W = some b → b < W.heap.size
/-- What a round of the collector keeps: all but its own memory. -/
def KpB (B0 n₀ : Nat) (W W' : World) : Prop :=
  Below n₀ W W' ∧ (Good B0 W → Good B0 W' ∧ (∀ (b : Nat) (o : Obj), W.heap[b]? = some o → o.isCells = true → b ≠ B0 → ownAt B0 W ≠ some b → W'.heap[b]? = some o) ∧
    (ownAt B0 W' = ownAt B0 W ∨ ∃ b, W.heap.size ≤ b ∧ ownAt B0 W' = some b))
theorem KpB.refl (B0 n₀ : Nat) (W : World) : KpB B0 n₀ W W := ⟨Below.refl _ _, fun h => ⟨h, fun _ _ h _ _ _ => h, .inl rfl⟩⟩
theorem KpB.trans {B0 n₀ : Nat} {A B C : World} (h : KpB B0 n₀ A B) (k : KpB B0 n₀ B C) : KpB B0 n₀ A C := by
  refine ⟨h.1.trans k.1, fun g => ?_⟩
  obtain ⟨g1, k1, o1⟩ := h.2 g
  obtain ⟨g2, k2, o2⟩ := k.2 g1
  have hs := h.1.size
  refine ⟨g2, fun b o hb hc hne hno => k2 b o (k1 b o hb hc hne hno) hc hne fun e => ?_, ?_⟩
  · rcases o1 with o1 | ⟨b', hb', o1⟩
    · exact hno (o1 ▸ e)
    · rw [o1] at e
      have := (Array.getElem?_eq_some_iff.1 hb).1
      injection e with e; omega
  · rcases o2 with o2 | ⟨b', hb', o2⟩
    · rw [o2]; rcases o1 with o1 | o1
      · exact .inl o1
      · exact .inr o1
    · exact .inr ⟨b', by omega, o2⟩
theorem KpB.of_grown {B0 n₀ : Nat} {W W' : World} {row : Option Nat} (hb : Below n₀ W W') (hg : W.grownBy W' row) (hr : ∀ r, row = some r → ∃ o : Obj, W.heap[r]? = some o ∧ o.isCells = false) : KpB B0 n₀ W W' := by
  refine ⟨hb, fun g => ?_⟩
  obtain ⟨⟨v, hv⟩, ho⟩ := g
  have hc := cell_kept hv hg hr
  have e : ownAt B0 W' = ownAt B0 W := by unfold ownAt; rw [hc, hv]
  refine ⟨⟨⟨v, hc⟩, fun b h => Nat.lt_of_lt_of_le (ho b (e ▸ h)) hb.size⟩, fun b o h hoc _ _ => ?_, .inl e⟩
  refine (hg.block b (Array.getElem?_eq_some_iff.1 h).1 fun er => ?_).trans h
  obtain ⟨o', h', hn⟩ := hr b er.symm
  rw [h] at h'; cases h'; rw [hoc] at hn; cases hn
theorem KpB.alloc {B0 n₀ : Nat} (W : World) (hn : n₀ ≤ W.heap.size) (o : Obj) : KpB B0 n₀ W (W.alloc o) := KpB.of_grown ((Below.refl _ _).alloc hn o) (World.grownBy_alloc W o none) (fun r e => by cases e)
theorem SeqStopsK.strong {α : Type} {F : Fence} {n : Nat} {P : Program} {g : Nat} {lb : Array Value} {encs : α → Array Value} {Kp Kp' : World → World → Prop} {S Sp : List α → Prop} {N : Nat} {w : World}
    (h : SeqStopsK F n P g lb encs Kp S Sp N w) (hk : ∀ W W', Kp' W W' → Kp W W') : SeqStopsK F n P g lb encs Kp' S Sp N w := fun l J Jx W hW hJ hJx hY h0 =>
  h l J Jx W hW hJ hJx (fun pre x W1 h1 h2 => by
    obtain ⟨fn, tmps, assign, body, hy, hR⟩ := hY pre x W1 h1 h2
    exact ⟨fn, tmps, assign, body, hy, hR.mono fun e W' hh => hh.elim (fun ⟨a, b, c⟩ => .inl ⟨a, b, hk _ _ c⟩) .inr⟩) h0

theorem own_lt {W : World} {base size k : Nat} {e : TypeId} {v : Value} {xs : List Value} (h : W.ownsRow base e size v k xs) (b : Nat) (hb : v.ownBlock = some b) : b < W.heap.size := by
  rcases h.2 with ⟨rfl, _⟩ | ⟨g, cap, cur, rfl, _, hh, _⟩
  · simp [Value.ownBlock] at hb
  · have e1 : g = b := by simpa [Value.ownBlock] using hb
    subst e1
    exact (Array.getElem?_eq_some_iff.1 hh).1
theorem KpB.appended {W w1 : World} {B0 n₀ base size m : Nat} {t e : TypeId} {v v' : Value} {ys : List Value} {tmp : Obj} (hv : Boxed W B0 t v) (hgrow : (W.alloc tmp).grownBy w1 v.ownBlock)
    (hv2 : Boxed (w1.setCell ⟨B0, 0, none⟩ v') B0 t v') (hr2 : (w1.setCell ⟨B0, 0, none⟩ v').ownsRow base e size v' m ys) (hob : v'.ownBlock = v.ownBlock ∨ ∃ g, v'.ownBlock = some g ∧ W.heap.size ≤ g)
    (hb : Below n₀ W (w1.setCell ⟨B0, 0, none⟩ v')) : KpB B0 n₀ W (w1.setCell ⟨B0, 0, none⟩ v') := by
  have e1 : ownAt B0 W = v.ownBlock := by unfold ownAt; rw [hv.cell]; rfl
  have e2 : ownAt B0 (w1.setCell ⟨B0, 0, none⟩ v') = v'.ownBlock := by unfold ownAt; rw [hv2.cell]; rfl
  refine ⟨hb, fun _ => ⟨⟨⟨v', hv2.cell⟩, fun b h => own_lt hr2 b (e2 ▸ h)⟩, fun b o h hoc hne hno => ?_, ?_⟩⟩
  · have hlt := (Array.getElem?_eq_some_iff.1 h).1
    have h1 : (W.alloc tmp).heap[b]? = some o := (Below.heap_alloc W tmp b hlt).trans h
    have hlt1 := (Array.getElem?_eq_some_iff.1 h1).1
    have h2 : w1.heap[b]? = some o := (hgrow.block b hlt1 fun e => hno (e1.trans e.symm)).trans h1
    exact ((grownBy_setCell' w1 B0 v').block b (Array.getElem?_eq_some_iff.1 h2).1 (fun e => hne (by injection e))).trans h2
  · rw [e1, e2]
    rcases hob with h | ⟨g, h, hg⟩
    · exact .inl h
    · exact .inr ⟨g, hg, h⟩

/-- 'append(s, p)' in a walk under a fence: one prefix onto an owned row. -/
theorem app1In {F : Fence} {n : Nat} {w : World} {ops : Array Oper} {rest : List Oper} {o : Oper} {a : Act} {Q : Exit → Act → World → Prop} (hgd : o.guard = none) (s x : Operand)
    (ho : o.op = .call { callee := .builtin .append, args := #[s, x], argTypes := #[22, 22] })
    (base : Nat) (xs : List Pfx) (m : Nat) (A0 : Option Addr) (c0 : Nat) (hs : a.eval s = .slice A0 m c0) (hown : w.ownsRow base 35 18 (.slice A0 m c0) m (flat encP xs))
    (b c : Nat) (y : Pfx) (hx : a.eval x = .slice (some ⟨b, 0, none⟩) 1 c) (hrow : rowAt w b 0 18 = some (encP y)) (hlen : m + 1 ≤ 1000000) (hbase : base ≤ w.heap.size)
    (h : ∀ g' c' w', w'.ownsRow base 35 18 (.slice (some ⟨g', 0, none⟩) (m + 1) c') (m + 1) (flat encP (xs ++ [y])) → w.grownBy w' (Value.slice A0 m c0).ownBlock → ((Value.slice (some ⟨g', 0, none⟩) (m + 1) c').ownBlock = (Value.slice A0 m c0).ownBlock ∨ g' = w.heap.size) → wpListIn F n Tryd.prog ops Q rest (a.put o.dst (.slice (some ⟨g', 0, none⟩) (m + 1) c')) w') : wpListIn F n Tryd.prog ops Q (o :: rest) a w := by
  obtain ⟨i0, hi, hz0, hz1, hz2⟩ := zeroValue_info (zvP w) infoP
  refine wpListIn_append_own_at w hgd s x 22 ho base 35 i0 _ 18 32 Tryd.underlying22 hi hz0 hz1 hz2 (by simp [Value.cells, encP_length]) (by omega) _ _ _ hs hown ⟨b, 0, none⟩ 1 c (encP y) hx (by simp [encP_length])
    (fun j u hu => by
      have h2 := (rowAt_some hrow).2 j u hu
      rw [Nat.zero_add] at h2
      by_cases hj : j = 0
      · subst hj; simpa [Addr.add] using h2
      · simpa [Addr.add, hj] using h2) (encP_one y) (by unfold maxLen; omega) (by omega) hbase ?_
  intro v' w' hown' hgrow _ hob
  obtain ⟨g', cap', rfl⟩ := ownsRow_succ hown'
  exact h g' cap' w' (by rw [flat_append]; simpa [flat] using hown') hgrow (hob.imp_right fun e => by simpa [Value.ownBlock] using e)

/-- A prefix in a box of its own. -/
def BoxP (W : World) (B : Nat) (x : Pfx) : Prop := W.heap[B]? = some (.cells (encP x).toArray 35)
theorem BoxP.kept {W W' : World} {row : Option Nat} {B : Nat} {x : Pfx} (h : BoxP W B x) (hg : W.grownBy W' row) (hne : some B ≠ row) : BoxP W' B x := (hg.block B (Array.getElem?_eq_some_iff.1 h).1 hne).trans h
theorem BoxP.row {W : World} {B : Nat} {x : Pfx} (h : BoxP W B x) : rowAt W B 0 18 = some (encP x) := by
  refine rowAt_of_cells (encP_length x) (by omega) fun j v hv => ?_
  simp [World.cell?, show W.heap[B]? = _ from h, hv]

set_option maxRecDepth 100000 in
set_option maxHeartbeats 2000000 in
/-- cover.collected, over whatever iterator keeps its word: a row of the call's own. -/
theorem collected_in (F : Fence) (n : Nat) (hF : F.fn 27) (hro : F.round = none) (hn : 3 ≤ n) (gf : Nat) (lb : Array Value) (hFg : F.fn gf) (eg : ∀ args w, (callFunc gf args).run Tryd.prog w = .ok (.enter gf args) w)
    (S Sp : List Pfx → Prop) (N n₀ : Nat) (hN : N ≤ 1000000) (w : World) (hseq : SeqStopsK F (n - 1) Tryd.prog gf lb seqP (KpB w.heap.size n₀) S Sp N (w.alloc (.cells #[.slice none 0 0] 22))) (hn0 : n₀ ≤ w.heap.size) :
    CallsIn F n Tryd.prog 27 #[.func (.func gf) #[] lb] w fun e W' => ∃ xs A c, S xs ∧ xs.length ≤ N ∧ e = .returned (.slice A xs.length c) ∧ W'.ownsRow w.heap.size 35 18 (.slice A xs.length c) xs.length (flat encP xs) ∧ (A = none → c = 0) ∧ Below w.heap.size w W' := by
  have h1 : 1 ≤ n := by omega
  obtain ⟨i0, hi, hz0, hz1, hz2⟩ := zeroValue_info (zvP w) infoP
  refine callsIn_of_wp_marks Tryd.func27 rfl hF ?_ hro
  simp only [Tryd.ntmps27, List.size_toArray, List.length_cons, List.length_nil, Nat.reduceAdd, Nat.reduceSub, Array.replicate_succ, Array.replicate_zero, List.push_toArray, List.append_toArray, List.nil_append, List.cons_append]
  gi_wp2
  have bO := Boxed.new w 22 (.slice none 0 0)
  have hB0 : Below w.heap.size w (w.alloc (.cells #[.slice none 0 0] 22)) := (Below.refl _ w).alloc (Nat.le_refl _) _
  refine wpIn_rangeFunc_ownH hro h1 (gf := gf) (lb := lb) rfl hFg eg hseq KpB.trans (fun W l o o' hl ho hc hw => KpB.of_grown (belowK_b (w := w.alloc (.cells #[.slice none 0 0] 22)) (by simp; omega) W l o o' hl ho hc hw) (grownBy_putObj' _ l o') (fun r e => by cases e; exact ⟨o, ho, hc⟩)) (Below.refl _ _) (fun _ => rfl)
    (fun pre W => ((∃ v, Boxed W w.heap.size 22 v ∧ W.ownsRow w.heap.size 35 18 v pre.length (flat encP pre) ∧ (∃ A c, v = .slice A pre.length c ∧ (A = none → c = 0))) ∧ Below w.heap.size w W) ∧ pre.length ≤ N)
    (fun _ _ _ => False)
    (OwnFrom.and (OwnFrom.and (Own.from (holdsRow_own w.heap.size w.heap.size 22 35 18 (fun pre : List Pfx => pre.length) (fun pre => flat encP pre) (fun pre v => ∃ A c, v = .slice A pre.length c ∧ (A = none → c = 0))) _) (ownFrom_below (Nat.le_refl _) (by simp))) (fun _ _ _ _ hs _ _ => hs))
    (fun _ _ _ _ _ hs _ _ => hs)
    ⟨⟨⟨_, bO, World.ownsRow_nil _ _ _ _, none, 0, rfl, fun _ => rfl⟩, hB0⟩, Nat.zero_le _⟩
    (fun x a' W => ∃ Bx, w.heap.size < Bx ∧ BoxP W Bx x ∧ a' = { tmps := #[.func (.func gf) #[] lb, undef, .slice none 0 0, .pointer (some ⟨w.heap.size, 0, none⟩), .pointer (some ⟨Bx, 0, none⟩), .func (.func gf) #[] lb, .agg (encP x).toArray, undef, undef, undef, undef, undef], defers := [] })
    (fun x a' _ X Y row hs hg hr => by
      obtain ⟨Bx, h1, h2, h3⟩ := hs
      exact ⟨Bx, h1, h2.kept hg (fun e => by
        obtain ⟨_, o, ho, hoc⟩ := hr Bx e.symm
        rw [show X.heap[Bx]? = _ from h2] at ho
        cases ho
        cases hoc), h3⟩)
    ?assign ?body ?done ?stop
  case assign =>
    rintro l pre x W K ⟨⟨⟨v, bO1, hrow, hv⟩, hB1⟩, hl⟩ hK
    simp only [seqP]
    gi_wp2
    exact hK _ _ ((KeepsOthers.alloc _ _).from _) (KpB.alloc W (Nat.le_trans hn0 hB1.size) _) ⟨⟨⟨v, bO1.alloc _, hrow.alloc _, hv⟩, hB1.alloc hB1.size _⟩, hl⟩ ⟨W.heap.size, bO1.lt, World.alloc_heap_new W _, rfl⟩
  case body =>
    rintro l pre x a' W hl ⟨r, hr⟩ ⟨⟨⟨v, bO1, hrow, A1, c1, rfl, hA1⟩, hB1⟩, hlp⟩ ⟨Bx, hBx, bX, rfl⟩ hlt
    have cO := bO1.cell
    have rX := bX.row
    have hsz := hB1.size
    have HOW := Lib.hid hrow
    have HB1 := Lib.hid hB1
    have HbO := Lib.hid bO1
    clear hrow hB1 bO1
    gi_wp2_with (gi_at_builtin; refine app1In rfl _ _ rfl w.heap.size pre pre.length A1 c1 rfl (HOW.out.alloc _) W.heap.size 1 x rfl (by simp [go_sem]) (by omega) (by simp; omega) ?_; intro g' c' w1 hown' hgrow hob; obtain ⟨hv1, hv2, hr2, hk2, hb2⟩ := HbO.out.appended (by decide) HOW.out HB1.out.size (Nat.le_refl _) hown' hgrow; have hc1 := hv1.cell; have hf1 := hv1.frozen)
    have hKp := KpB.appended HbO.out hgrow hv2 hr2 (hob.imp_right fun e => ⟨g', rfl, by rw [e]; simp⟩) (hb2.mono hn0)
    exact ⟨hk2.from _, hKp, ⟨⟨⟨_, hv2, by simpa using hr2, some ⟨g', 0, none⟩, c', by simp, fun h => by cases h⟩, HB1.out.trans hb2⟩, by simp; omega⟩⟩
  case done => 
    rintro D xs W hD hS ⟨⟨⟨v, bO1, hrow, A1, c1, rfl, hA1⟩, hB1⟩, hlp⟩ hK
    have cO := bO1.cell
    gi_wp2
    refine ⟨by simp, .inl ⟨_, _, rfl, run_takeDeferred hK, ?_⟩⟩
    exact ⟨_, results_tmp rfl _ _ _, xs, A1, c1, hS, hlp, rfl, ownsRow_putObj hrow _ hK rfl, hA1, hB1.trans (belowK_b (w := w) (Nat.le_refl _) W D _ _ (by simp at hD; omega) hK rfl rfl)⟩
  case stop =>
    rintro D c pre W _ _ h _
    exact h.elim

end Go.Proofs.YtfdebdbmdbmbbaaDoor
