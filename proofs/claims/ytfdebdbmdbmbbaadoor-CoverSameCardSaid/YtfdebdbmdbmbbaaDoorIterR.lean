/- cover.rest, Minus's iterator: by contract. -/
import Derived.Test.YtfdebdbmdbmbbaaDoorIterM
import Derived.Test.YtfdebdbmdbmbbaaDoorSetL
set_option linter.unusedSimpArgs false
set_option linter.unusedVariables false
namespace Go.Proofs.YtfdebdbmdbmbbaaDoor
open Go.RowKit Go.Shelf

attribute [local go_sem] Oper.semAt_some

theorem YieldAt.anyDepth {m : Nat} (m' : Nat) {P : Program} {l : Nat} {args : Array Value} {W : World} {R : Ending → World → Prop} (h : YieldAt Fence.wide m P l args W R) : YieldAt Fence.wide m' P l args W R := by
  obtain ⟨fn, tmps, assign, body, hy, hR⟩ := h
  exact ⟨fn, tmps, assign, body, hy, hR.1, fun c cs _ => hR.2 c cs (fun d h => by cases h)⟩

theorem wide_depth (k : Nat) : Fence.wide.depth.isSome = true → 1 ≤ k := fun h => by cases h
theorem grown_of_below {w w' : World} (h : Below w.heap.size w w') : w.grownBy w' none := by
  obtain ⟨d, os, rfl⟩ := gw_of_below h
  exact grownBy_gw w d os
theorem KpB.of_below {B0 n₀ : Nat} {W W' : World} (h : Below W.heap.size W W') (hn : n₀ ≤ W.heap.size) : KpB B0 n₀ W W' := KpB.of_grown (h.mono hn) (grown_of_below h) (fun r e => by cases e)

/-- A block that the collector does not write. -/
def Kept (B0 : Nat) (W : World) (b : Nat) : Prop := b < W.heap.size ∧ b ≠ B0 ∧ ownAt B0 W ≠ some b
theorem Kept.keep {B0 n₀ b : Nat} {W W' : World} (h : Kept B0 W b) (hk : KpB B0 n₀ W W') (hG : Good B0 W) : Kept B0 W' b := by
  obtain ⟨hlt, hne, hno⟩ := h
  obtain ⟨_, _, o1⟩ := hk.2 hG
  refine ⟨Nat.lt_of_lt_of_le hlt hk.1.size, hne, ?_⟩
  rcases o1 with o1 | ⟨b', hb, o1⟩
  · rw [o1]; exact hno
  · rw [o1]; intro e; injection e with e; omega
theorem Kept.block {B0 n₀ b : Nat} {W W' : World} {o : Obj} (h : Kept B0 W b) (hk : KpB B0 n₀ W W') (hG : Good B0 W) (hb : W.heap[b]? = some o) (hc : o.isCells = true) : W'.heap[b]? = some o :=
  (hk.2 hG).2.1 b o hb hc h.2.1 h.2.2
/-- A block that is newer than the collector's. -/
theorem Kept.new {B0 b : Nat} {W w' : World} (hG : Good B0 W) (hb : Below W.heap.size W w') (h1 : W.heap.size ≤ b) (h2 : b < w'.heap.size) : Kept B0 w' b := by
  obtain ⟨⟨v, hv⟩, ho⟩ := hG
  have hc := (hb.cell (p := ⟨B0, 0, none⟩) (cell_in hv)).trans hv
  have e : ownAt B0 w' = ownAt B0 W := by unfold ownAt; rw [hc, hv]
  have hlt := cell_in hv
  refine ⟨h2, ?_, fun e2 => ?_⟩
  · rintro rfl; simp only at hlt; omega
  · have := ho _ (e ▸ e2); omega
/-- A slice that the collector does not write. -/
def SlK (B0 : Nat) (W : World) (A : Option Addr) (xs : List Pfx) : Prop :=
  xs = [] ∨ ∃ b o, A = some ⟨b, o, none⟩ ∧ Kept B0 W b ∧ ∀ i x, xs[i]? = some x → rowAt W b (o + i * 18) 18 = some (encP x)
theorem SlK.slR {B0 : Nat} {W : World} {A : Option Addr} {xs : List Pfx} (h : SlK B0 W A xs) : SlR encP 18 W W.heap.size A xs := by
  rcases h with h | ⟨b, o, h1, h2, h3⟩
  · exact .inl h
  · exact .inr ⟨b, o, h1, h2.1, h3⟩
theorem rowAt_cells {w : World} {b o n : Nat} {l : List Value} (h : rowAt w b o n = some l) : ∃ ob : Obj, w.heap[b]? = some ob ∧ ob.isCells = true := by
  unfold rowAt at h
  split at h
  · rename_i c t f hc
    exact ⟨_, hc, rfl⟩
  · cases h
theorem SlK.keep {B0 n₀ : Nat} {W W' : World} {A : Option Addr} {xs : List Pfx} (h : SlK B0 W A xs) (hk : KpB B0 n₀ W W') (hG : Good B0 W) : SlK B0 W' A xs := by
  rcases h with h | ⟨b, o, h1, h2, h3⟩
  · exact .inl h
  · refine .inr ⟨b, o, h1, h2.keep hk hG, fun i x hx => ?_⟩
    have hr := h3 i x hx
    obtain ⟨ob, hb, hc⟩ := rowAt_cells hr
    exact (rowAt_of_heap ((h2.block hk hG hb hc).trans hb.symm) _ _).trans hr
/-- The row that a loop has laid. -/
theorem SlK.own {B0 base m c : Nat} {W w' : World} {A : Option Addr} {O : List Pfx} {e : TypeId} (hG : Good B0 W) (hb : Below W.heap.size W w') (h : w'.ownsRow base e 18 (.slice A m c) m (flat encP O)) (hm : m = O.length) (hbase : W.heap.size ≤ base) : SlK B0 w' A O := by
  have hs := SlR.of_own (enc := encP) encP_length (by omega) hm.symm h
  rcases hs with hs | ⟨b, o, h1, h2, h3⟩
  · exact .inl hs
  · subst h1
    refine .inr ⟨b, o, rfl, Kept.new hG hb ?_ h2, h3⟩
    rcases h.2 with ⟨h4, _⟩ | ⟨g, cap, cur, h4, h5, _⟩
    · cases h4
    · injection h4 with h4; injection h4 with h4; injection h4 with h4 h6; omega

theorem down_row (p : Pfx) : (encP p).set 17 (.int .i64 (p.bits + 1)) = encP (downP p) := by
  have hl := p.a.len
  unfold encP downP
  rw [List.set_append_right _ _ (by simp [encB_length]; omega)]
  simp [encB_length, hl]
theorem box_set {W : World} {B : Nat} {p : Pfx} (h : BoxP W B p) : BoxP (W.setCell ⟨B, 17, none⟩ (.int .i64 (p.bits + 1))) B (downP p) := by
  unfold BoxP at h ⊢
  simp only [World.setCell, Array.getElem?_modify, h, if_true, Option.map_some, Obj.isCells]
  rw [← down_row]
  simp
theorem filter_snoc {α : Type} (f : α → Bool) (xs : List α) (k : Nat) (x : α) (h : xs[k]? = some x) : (xs.take (k + 1)).filter f = (xs.take k).filter f ++ (if f x = true then [x] else []) := by
  rw [List.take_add_one, h, List.filter_append]
  by_cases hx : f x = true <;> simp [hx]


set_option maxRecDepth 100000 in
set_option maxHeartbeats 4000000 in
theorem rest_in (l B0 n₀ M N : Nat) (J Jx : List Pfx → World → Prop)
    (hY : ∀ m pre x W, J pre W → pre.length < N → YieldAt Fence.wide m Tryd.prog l (seqP x) W fun e W' =>
      (e = .returned (.bool true) ∧ J (pre ++ [x]) W' ∧ KpB B0 n₀ W W') ∨ (e = .returned (.bool false) ∧ Jx (pre ++ [x]) W'))
    (hJa : AbidesFrom M J) (hgn : 0 < n₀) : ∀ (f n : Nat) (p : Pfx) (xs : List Pfx) (A : Option Addr) (len cap : Nat) (pre : List Pfx) (W : World),
    okP p = true → (∀ q ∈ xs, okP q = true) → 129 ≤ f + lP p → len = xs.length → len ≤ 1000 → SlK B0 W A xs → Good B0 W → Glob W → J pre W → n₀ ≤ W.heap.size → pre.length + (restL f p xs).length ≤ N →
    CallsIn Fence.wide n Tryd.prog 22 #[.agg (encP p).toArray, .slice A len cap, .func (.yield l) #[] #[]] W fun e W' =>
      (e = .returned (.bool true) ∧ J (pre ++ restL f p xs) W' ∧ KpB B0 n₀ W W') ∨ (e = .returned (.bool false) ∧ ∃ q, q <+: restL f p xs ∧ Jx (pre ++ q) W')
  | 0, n, p, xs, A, len, cap, pre, W, hp, _, hf, _, _, _, _, _, _, _, _ => by have := ok_l hp; omega
  | f + 1, n, p, xs, A, len, cap, pre, W, hp, hxs, hf, hlen, hl1, hA, hG, hgl, hJ, hnW, hN => by
    have ih := rest_in l B0 n₀ M N J Jx hY hJa hgn f
    have Ih := Lib.hid ih
    have Hlen := Lib.hid hlen
    have HN := Lib.hid hN
    have HJ := Lib.hid hJ
    have HA := Lib.hid hA
    have HS := Lib.hid hA.slR
    have Hxs := Lib.hid hxs
    have hbp : BoxP (W.alloc (.cells (encP p).toArray 35)) W.heap.size p := World.alloc_heap_new W _
    have hb0 : Below W.heap.size W (W.alloc (.cells (encP p).toArray 35)) := (Below.refl _ _).alloc (Nat.le_refl _) _
    have Hbp := Lib.hid hbp
    have Hb0 := Lib.hid hb0
    have Hf := Lib.hid hf
    clear ih hlen hN hJ hA hxs hbp hb0 hf
    refine callsIn_of_wp Tryd.func22 rfl trivial ?_ rfl
    simp only [Tryd.ntmps22, List.size_toArray, List.length_cons, List.length_nil, Nat.reduceAdd, Nat.reduceSub, Array.replicate_succ, Array.replicate_zero, List.push_toArray, List.append_toArray, List.nil_append, List.cons_append]
    gi_wp2
    gi_loopw [7, 12] (fun v i wr => ∃ (k : Nat) (Ai : Option Addr) (ci mi : Nat), k ≤ len ∧ i = .int .i64 k ∧ v = .slice Ai mi ci ∧ Hid (mi = ((xs.take k).filter (holdsP p ·)).length) ∧ mi ≤ k ∧ Hid (wr.ownsRow (W.heap.size + 1) 35 18 (.slice Ai mi ci) mi (flat encP ((xs.take k).filter (holdsP p ·)))) ∧ Hid (Below W.heap.size W wr) ∧ W.heap.size + 1 ≤ wr.heap.size ∧ Hid (BoxP wr W.heap.size p) ∧ Hid (∀ q ∈ xs.take k, holdsP q p = false))
      (fun _ i _ => len - (intOf i).toNat)
    case atStart => exact ⟨0, none, 0, 0, Nat.zero_le _, rfl, rfl, Lib.hid (by simp), by omega, Lib.hid (by simpa [flat] using World.ownsRow_nil _ _ _ _), Hb0, by simp, Hbp, Lib.hid (by simp)⟩
    case round =>
      obtain ⟨k, Ai, ci, mi, hk, rfl, rfl, hmi, hmk, hown, hbel, hsz, hbp, hno⟩ := hrel
      by_cases hlt : k < len
      · obtain ⟨q, hq⟩ : ∃ q, xs[k]? = some q := ⟨_, List.getElem?_eq_getElem (by have := Hlen.out; omega)⟩
        obtain ⟨b, o, hAs, hbs, hrow⟩ := (HS.out.below hbel.out (Nat.le_refl _)).get hq
        subst hAs
        have hfil := filter_snoc (holdsP p ·) xs k q hq
        have htk : xs.take (k + 1) = xs.take k ++ [q] := by rw [List.take_add_one, hq]; rfl
        have hbelA : Below W.heap.size W (wr.alloc (.cells (encP q).toArray 35)) := hbel.out.alloc (by omega) _
        have hbpA : BoxP (wr.alloc (.cells (encP q).toArray 35)) W.heap.size p := hbp.out.kept (World.grownBy_alloc _ _ none) (by simp)
        have rP := hbpA.row
        have rQ : rowAt (wr.alloc (.cells (encP q).toArray 35)) wr.heap.size 0 18 = some (encP q) := BoxP.row (World.alloc_heap_new wr _)
        have hglA := hgl.below hbelA
        have ch1 := Calls.to_gw (holds_any q p _ hglA)
        have ch2 := fun d os => Calls.next_gw (holds_any p q _ (hglA.gw d os))
        have rPg : ∀ d os, rowAt (gw (wr.alloc (.cells (encP q).toArray 35)) d os) W.heap.size 0 18 = some (encP p) := fun d os => (rowAt_gw _ d os _ 0 18 (by simp; omega)).trans rP
        have rQg : ∀ d os, rowAt (gw (wr.alloc (.cells (encP q).toArray 35)) d os) wr.heap.size 0 18 = some (encP q) := fun d os => (rowAt_gw _ d os _ 0 18 (by simp)).trans rQ
        have hbelG : ∀ d os, Below W.heap.size W (gw (wr.alloc (.cells (encP q).toArray 35)) d os) := fun d os => below_gw' hbelA (by simp; omega) d os
        have HbG := Lib.hid hbelG
        have Hfil := Lib.hid hfil
        have HQ := Lib.hid hq
        have Htk := Lib.hid htk
        have hownG : ∀ d os, (gw (wr.alloc (.cells (encP q).toArray 35)) d os).ownsRow (W.heap.size + 1) 35 18 (.slice Ai mi ci) mi (flat encP ((xs.take k).filter (holdsP p ·))) := fun d os => own_keep (hown.out.alloc _) (below_gw _ d os)
        have hbpG : ∀ d os, BoxP (gw (wr.alloc (.cells (encP q).toArray 35)) d os) W.heap.size p := fun d os => hbpA.kept (grownBy_gw _ d os) (by simp)
        have Hog := Lib.hid hownG
        have HbP := Lib.hid hbpG
        clear hfil hq hbelA hbpA hglA hbelG htk hownG hbpG hbp hown
        by_cases h1 : holdsP q p = true
        · have hr0 : restL (f + 1) p xs = [] := by
            unfold restL
            rw [if_pos (List.any_eq_true.2 ⟨q, List.mem_of_getElem? HQ.out, h1⟩)]
          have Hr0 := Lib.hid hr0
          rw [h1] at ch1
          clear hr0 ch2
          gi_wp2_with ((refine ⟨trivial, wide_depth _, ?_⟩; gi_at_call 19; refine (callsIn_wide.2 ch1).mono ?_; clear ch1; rintro e w' ⟨rfl, d, os, rfl⟩))
          go_ret
          exact .inl ⟨rfl, by rw [Hr0.out, List.append_nil]; exact hJa _ _ _ none HJ.out (grown_of_below (HbG.out d os)) (fun r e => by cases e), KpB.of_below (HbG.out d os) hnW⟩
        · have h1f : holdsP q p = false := by simpa using h1
          rw [h1f] at ch1
          have Hno2 : Hid (∀ r ∈ xs.take (k + 1), holdsP r p = false) := Lib.hid (by
            rw [Htk.out]
            intro r hr
            rcases List.mem_append.1 hr with h | h
            · exact hno.out r h
            · rw [List.mem_singleton] at h; subst h; exact h1f)
          by_cases h2 : holdsP p q = true
          · rw [h2] at ch2
            have Hf2 : Hid ((xs.take (k + 1)).filter (holdsP p ·) = (xs.take k).filter (holdsP p ·) ++ [q]) := Lib.hid (by rw [Hfil.out, if_pos h2])
            clear h1 h2 h1f
            gi_wp2_with ((refine ⟨trivial, wide_depth _, ?_⟩; gi_at_call 19; refine (callsIn_wide.2 ch1).mono ?_; clear ch1; rintro e w' ⟨rfl, d, os, rfl⟩))
            gi_wp2_with (first
              | ((refine ⟨trivial, wide_depth _, ?_⟩; gi_at_call 19; refine (callsIn_wide.2 (ch2 _ _)).mono ?_; clear ch2; rintro e w' ⟨rfl, d2, os2, rfl⟩))
              | (gi_at_builtin; refine app1In rfl _ _ rfl (W.heap.size + 1) ((xs.take k).filter (holdsP p ·)) mi Ai ci rfl ((Hog.out _ _).alloc _) (wr.heap.size + 1 + os2.size) 1 q rfl ?_ (by omega) ?_ ?_; rotate_left; rotate_left; intro g' c' w1 hown' hgrow hob; have Hown2 := Lib.hid hown'; have Hgr := Lib.hid hgrow; clear hown' hgrow hob))
            · have hb2 := ((HbG.out d2 os2).alloc (by simp [gw_size]; omega) (.cells (encP q).toArray 35)).grown Hgr.out (by simp [gw_size]; omega) (fun g hg => by have := ((Hog.out d2 os2).lt g hg).1; omega)
              have hp2 := ((HbP.out d2 os2).kept (World.grownBy_alloc _ (.cells (encP q).toArray 35) none) (by simp)).kept Hgr.out (fun e => by have := ((Hog.out d2 os2).lt W.heap.size e.symm).1; omega)
              go_roundw
              case rel => exact ⟨k + 1, some ⟨g', 0, none⟩, c', mi + 1, by omega, by simp, rfl, by rw [Hf2.out]; exact Lib.hid (by rw [hmi.out]; simp), by omega, by rw [Hf2.out]; exact Hown2, Lib.hid hb2, by have := hb2.size; have := Hgr.out.size; simp [gw_size] at this; omega, Lib.hid hp2, Hno2⟩
              case measure => simp [intOf]; omega
            · simp [go_sem]
            · simp [gw_size]; omega
          · have h2f : holdsP p q = false := by simpa using h2
            rw [h2f] at ch2
            have Hf2 : Hid ((xs.take (k + 1)).filter (holdsP p ·) = (xs.take k).filter (holdsP p ·)) := Lib.hid (by rw [Hfil.out, if_neg h2, List.append_nil])
            clear h1 h2 h1f h2f
            gi_wp2_with ((refine ⟨trivial, wide_depth _, ?_⟩; gi_at_call 19; refine (callsIn_wide.2 ch1).mono ?_; clear ch1; rintro e w' ⟨rfl, d, os, rfl⟩))
            gi_wp2_with ((refine ⟨trivial, wide_depth _, ?_⟩; gi_at_call 19; refine (callsIn_wide.2 (ch2 _ _)).mono ?_; clear ch2; rintro e w' ⟨rfl, d2, os2, rfl⟩))
            go_roundw
            case rel => exact ⟨k + 1, Ai, ci, mi, by omega, by simp, rfl, by rw [Hf2.out]; exact hmi, by omega, by rw [Hf2.out]; exact Lib.hid (Hog.out _ _), Lib.hid (HbG.out _ _), by simp [gw_size]; omega, Lib.hid (HbP.out _ _), Hno2⟩
            case measure => simp [intOf]; omega
      · obtain rfl : k = len := by omega
        have e : xs.take k = xs := List.take_of_length_le (by have := Hlen.out; omega)
        rw [e] at hmi hown hno
        clear e
        have rP := hbp.out.row
        have hglw := hgl.below hbel.out
        have hJw : J pre wr := hJa _ _ _ none HJ.out (grown_of_below hbel.out) (fun r e => by cases e)
        have hr0 : restL (f + 1) p xs = if (xs.filter fun q => holdsP p q) = [] then [p] else restL f (downP p) (xs.filter fun q => holdsP p q) ++ restL f (halfP (downP p)) (xs.filter fun q => holdsP p q) := by
          conv => lhs; unfold restL
          rw [if_neg (by
            intro h
            obtain ⟨q, hq, h⟩ := List.any_eq_true.1 h
            rw [hno.out q hq] at h; cases h)]
        by_cases hm0 : mi = 0
        · subst hm0
          have hi0 : (xs.filter fun q => holdsP p q) = [] := List.length_eq_zero_iff.1 hmi.out.symm
          rw [if_pos hi0] at hr0
          have hn2 := HN.out
          rw [hr0] at hn2
          simp only [List.length_cons, List.length_nil] at hn2
          obtain ⟨fn, tmps, assign, body, hy, hR⟩ := hY (n - 1) pre p wr hJw (by omega)
          dsimp only [seqP] at hy
          have Hr0 := Lib.hid hr0
          clear hr0 hi0 hn2
          gi_wp2
          refine ⟨wide_depth _, ?_⟩
          refine hR.mono ?_
          rintro e W3 (⟨rfl, hJ4, hk4⟩ | ⟨rfl, hJx4⟩)
          · gi_wp2
            go_ret
            exact .inl ⟨rfl, by rw [Hr0.out]; exact hJ4, (KpB.of_below hbel.out hnW).trans hk4⟩
          · gi_wp2
            go_ret
            exact .inr ⟨rfl, [p], by rw [Hr0.out]; exact List.prefix_refl _, hJx4⟩
        · have hmf : ((mi : Int) == 0) = false := by simp; omega
          have hne : (xs.filter fun q => holdsP p q) ≠ [] := fun h => hm0 (by rw [hmi.out]; show (xs.filter fun q => holdsP p q).length = 0; rw [h]; rfl)
          rw [if_neg hne] at hr0
          obtain ⟨q, hq⟩ := List.exists_mem_of_ne_nil _ hne
          obtain ⟨hq1, hq2⟩ := List.mem_filter.1 hq
          obtain ⟨d0, d1, _, d3, d4⟩ := down_ok hp (Hxs.out q hq1) hq2 (hno.out q hq1)
          obtain ⟨e0, e1, _, _⟩ := down_parts d0 d1 d4 d3
          have hlp := ok_l hp
          have hpb0 : 0 ≤ p.bits := by omega
          have hpb1 : p.bits ≤ 127 := by omega
          have hoI : ∀ r ∈ xs.filter fun q => holdsP p q, okP r = true := fun r hr => Hxs.out r (List.mem_filter.1 hr).1
          have hc17 : wr.cell? ⟨W.heap.size, 17, none⟩ = some (.int .i64 p.bits) := by
            have := (rowAt_some rP).2 17 _ (encP_last p)
            rw [Nat.zero_add] at this
            exact this
          have hf17 : wr.frozen? ⟨W.heap.size, 17, none⟩ = false := Blk.frozen (t := 35) hbp.out 17
          have hw17 : IntKind.i64.wrap (p.bits + 1) = p.bits + 1 := by rw [IntKind.wrap_i64]; omega
          have hbel2 : Below W.heap.size W (wr.setCell ⟨W.heap.size, 17, none⟩ (.int .i64 (p.bits + 1))) := hbel.out.setCell (p := ⟨W.heap.size, 17, none⟩) (Nat.le_refl _) _
          have hbp2 := box_set hbp.out
          have hown2 := ownsRow_setCell_below hown.out (a := ⟨W.heap.size, 17, none⟩) (by simp) (.int .i64 (p.bits + 1))
          have hs2 := SlK.own hG hbel2 hown2 hmi.out (by omega)
          have hG2 := hG.below hbel2
          have hgl2 := hgl.below hbel2
          have hJ2 : J pre (wr.setCell ⟨W.heap.size, 17, none⟩ (.int .i64 (p.bits + 1))) := hJa _ _ _ none HJ.out (grown_of_below hbel2) (fun r e => by cases e)
          have hz2 : (wr.setCell ⟨W.heap.size, 17, none⟩ (.int .i64 (p.bits + 1))).heap.size = wr.heap.size := by simp [World.setCell]
          have hkb := Kept.new hG hbel2 (Nat.le_refl _) (by rw [hz2]; omega)
          have rD := hbp2.row
          have hK2 : KpB B0 n₀ W (wr.setCell ⟨W.heap.size, 17, none⟩ (.int .i64 (p.bits + 1))) := KpB.of_below hbel2 hnW
          have hn2 := HN.out
          rw [hr0, List.length_append] at hn2
          have hf2 := Hf.out
          have c1 := Ih.out (n - 1) (downP p) (xs.filter fun q => holdsP p q) Ai mi ci pre _ d0 hoI (by omega) hmi.out (by omega) hs2 hG2 hgl2 hJ2 (by rw [hz2]; omega) (by omega)
          obtain ⟨R1, hR1⟩ : ∃ R, R = restL f (downP p) (xs.filter fun q => holdsP p q) := ⟨_, rfl⟩
          obtain ⟨I, hI⟩ : ∃ I, I = xs.filter fun q => holdsP p q := ⟨_, rfl⟩
          rw [← hR1, ← hI] at hr0 hn2
          rw [← hR1] at c1
          rw [← hI] at hs2 hoI
          have hmI : mi = I.length := by rw [hI]; exact hmi.out
          have Hr0 := Lib.hid hr0
          have Hn2 := Lib.hid hn2
          have Hs2 := Lib.hid hs2
          have HG2 := Lib.hid hG2
          have HK2 := Lib.hid hK2
          have Hkb := Lib.hid hkb
          have Hbp2 := Lib.hid hbp2
          have HoI := Lib.hid hoI
          have HmI := Lib.hid hmI
          have Hgl2 := Lib.hid hgl2
          have Hbel2 := Lib.hid hbel2
          have Hd := Lib.hid (And.intro d0 (And.intro d1 (And.intro e0 e1)))
          clear hr0 hn2 hs2 hG2 hK2 hkb hbp2 hoI hmI hgl2 hbel2 hown2 hJ2 hf2 d0 d1 d4 e0 e1 hR1 hI hq1 hq2 hne hq hJw hglw
          gi_wp2_with fail
          refine ⟨trivial, wide_depth _, ?_⟩
          refine c1.mono ?_
          clear c1
          rintro e W3 (⟨rfl, hJ3, hk3⟩ | ⟨rfl, r1, hr1, hx1⟩)
          · have hbp3 : BoxP W3 W.heap.size (downP p) := Hkb.out.block hk3 HG2.out Hbp2.out rfl
            have rD3 := hbp3.row
            have hG3 := (hk3.2 HG2.out).1
            have hgl3 := Hgl2.out.under hk3.1 hgn
            have hsz3 : n₀ ≤ W3.heap.size := by have := hk3.1.size; rw [hz2] at this; omega
            have hs3 := Hs2.out.keep hk3 HG2.out
            have ch : Calls Tryd.prog 30 #[.agg (encP (downP p)).toArray] W3 fun e w' => e = .returned (.agg (encP (halfP (downP p))).toArray) ∧ ∃ d os, w' = gw W3 d os := Calls.to_gw (half_any (downP p) ((downP p).bits - 1).toNat W3 (by show p.bits + 1 = ((p.bits + 1 - 1).toNat : Int) + 1; omega) (by show (p.bits + 1 - 1).toNat < 128; omega))
            have hq3 : ∀ d os, KpB B0 n₀ W3 (gw W3 d os) := fun d os => KpB.gw _ hsz3 d os
            have c2 : ∀ d os, CallsIn Fence.wide (n - 1) Tryd.prog 22 #[.agg (encP (halfP (downP p))).toArray, .slice Ai mi ci, .func (.yield l) #[] #[]] (gw W3 d os) fun e W' =>
                (e = .returned (.bool true) ∧ J (pre ++ R1 ++ restL f (halfP (downP p)) I) W' ∧ KpB B0 n₀ (gw W3 d os) W') ∨ (e = .returned (.bool false) ∧ ∃ q, q <+: restL f (halfP (downP p)) I ∧ Jx (pre ++ R1 ++ q) W') := fun d os =>
              Ih.out (n - 1) (halfP (downP p)) I Ai mi ci (pre ++ R1) _ Hd.out.2.2.1 HoI.out (by have := Hd.out.2.2.2; have := Hf.out; omega) HmI.out (by omega) (hs3.keep (hq3 d os) hG3) ((hq3 d os).2 hG3).1 (hgl3.gw d os) (hJa _ _ _ none hJ3 (grownBy_gw _ d os) (fun r e => by cases e)) (by rw [gw_size]; omega) (by have := Hn2.out; rw [List.length_append]; omega)
            have Hc2 := Lib.hid c2
            have HK3 := Lib.hid (HK2.out.trans hk3)
            have Hq3 := Lib.hid hq3
            clear c2 hs3 hgl3 hG3 hk3 hbp3 hq3
            gi_wp2_with fail
            refine ⟨trivial, wide_depth _, ?_⟩
            refine (callsIn_wide.2 ch).mono ?_
            clear ch
            rintro e w' ⟨rfl, d, os, rfl⟩
            gi_wp2_with fail
            refine ⟨trivial, wide_depth _, ?_⟩
            (with_reducible refine (Hc2.out d os).mono ?_)
            rintro e W4 (⟨rfl, hJ4, hk4⟩ | ⟨rfl, r2, hr2, hx2⟩)
            · gi_wp2
              go_ret
              exact .inl ⟨rfl, by rw [Hr0.out, ← List.append_assoc]; exact hJ4, (HK3.out.trans (Hq3.out d os)).trans hk4⟩
            · gi_wp2
              go_ret
              refine .inr ⟨rfl, R1 ++ r2, ?_, by rw [← List.append_assoc]; exact hx2⟩
              obtain ⟨t, ht⟩ := hr2
              exact ⟨t, by rw [Hr0.out, ← ht, List.append_assoc]⟩
          · gi_wp2
            refine ⟨trivial, ?_⟩
            gi_wp2
            refine ⟨trivial, ?_⟩
            gi_wp2
            go_ret
            refine .inr ⟨rfl, r1, ?_, hx1⟩
            obtain ⟨t, ht⟩ := hr1
            exact ⟨t ++ restL f (halfP (downP p)) I, by rw [Hr0.out, ← ht, List.append_assoc]⟩

end Go.Proofs.YtfdebdbmdbmbbaaDoor
