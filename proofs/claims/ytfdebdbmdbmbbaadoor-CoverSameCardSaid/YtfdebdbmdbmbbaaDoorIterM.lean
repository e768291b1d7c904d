/- cover.Meet's iterator: by contract. -/
import Derived.Test.YtfdebdbmdbmbbaaDoorIter
import Derived.Test.YtfdebdbmdbmbbaaDoorMeetL
import Derived.Test.YtfdebdbmdbmbbaaDoorPfxF
import Derived.Test.YtfdebdbmdbmbbaaDoorEq
set_option linter.unusedSimpArgs false
set_option linter.unusedVariables false
namespace Go.Proofs.YtfdebdbmdbmbbaaDoor
open Go.RowKit Go.Shelf

attribute [local go_sem] Oper.semAt_some

theorem Glob.under {w w' : World} {n₀ : Nat} (h : Glob w) (hb : Below n₀ w w') (hlt : 0 < n₀) : Glob w' := fun j hj => (hb.cell hlt).trans (h j hj)

theorem cell_in {w : World} {a : Addr} {v : Value} (h : w.cell? a = some v) : a.block < w.heap.size := by
  unfold World.cell? at h
  cases hb : w.heap[a.block]? with
  | none => rw [hb] at h; cases h
  | some o => exact (Array.getElem?_eq_some_iff.1 hb).1
/-- A box that the iterator lays is none of the collector's. -/
theorem Good.box {B0 : Nat} {w : World} (h : Good B0 w) (o : Obj) : Good B0 (w.alloc o) ∧ ownAt B0 (w.alloc o) ≠ some w.heap.size ∧ w.heap.size ≠ B0 := by
  obtain ⟨⟨v, hv⟩, ho⟩ := h
  have hc := cell_kept hv (World.grownBy_alloc w o none) (fun r e => by cases e)
  have e2 : ownAt B0 (w.alloc o) = ownAt B0 w := by unfold ownAt; rw [hc, hv]
  have hlt := cell_in hv
  refine ⟨⟨⟨v, hc⟩, fun b hb => ?_⟩, fun e => ?_, fun e => ?_⟩
  · have := ho b (e2 ▸ hb)
    simp; omega
  · have := ho _ (e2 ▸ e); omega
  · simp only at hlt; omega

theorem Good.below {B0 : Nat} {w w' : World} (h : Good B0 w) (hb : Below w.heap.size w w') : Good B0 w' := by
  obtain ⟨⟨v, hv⟩, ho⟩ := h
  have hc := (hb.cell (p := ⟨B0, 0, none⟩) (cell_in hv)).trans hv
  have e : ownAt B0 w' = ownAt B0 w := by unfold ownAt; rw [hc, hv]
  exact ⟨⟨v, hc⟩, fun b h2 => Nat.lt_of_lt_of_le (ho b (e ▸ h2)) hb.size⟩

theorem BoxP.keep {B0 n₀ b : Nat} {W W' : World} {x : Pfx} (h : BoxP W b x) (hk : KpB B0 n₀ W W') (hG : Good B0 W) (hne : ownAt B0 W ≠ some b) (hB : b ≠ B0) : BoxP W' b x ∧ ownAt B0 W' ≠ some b ∧ b < W'.heap.size := by
  obtain ⟨_, k1, o1⟩ := hk.2 hG
  have hlt := (Array.getElem?_eq_some_iff.1 h).1
  have h2 := k1 b _ h rfl hB hne
  refine ⟨h2, ?_, (Array.getElem?_eq_some_iff.1 h2).1⟩
  rcases o1 with o1 | ⟨b', hb, o1⟩
  · rw [o1]; exact hne
  · rw [o1]; intro e; injection e with e; omega
theorem grownBy_gw (w : World) (d : Nat) (os : Array Obj) : w.grownBy (gw w d os) none := ⟨rfl, rfl, rfl, by rw [gw_size]; omega, fun k hk _ => gw_heap w d os k hk⟩
theorem KpB.gw {B0 n₀ : Nat} (W : World) (hn : n₀ ≤ W.heap.size) (d : Nat) (os : Array Obj) : KpB B0 n₀ W (gw W d os) := KpB.of_grown ((below_gw W d os).mono hn) (grownBy_gw W d os) (fun r e => by cases e)

set_option maxRecDepth 100000 in
set_option maxHeartbeats 4000000 in
theorem meet1_in (n : Nat) (hn : 1 ≤ n) (l B0 Ba Bb n₀ la ca lb cb : Nat) (A B : Option Addr) (xs ys : List Pfx) (hla : la = xs.length) (hlb : lb = ys.length) (hra : la ≤ 1000000) (hrb : lb ≤ 1000000) (J Jx : List Pfx → World → Prop)
    (hY : ∀ pre x W, J pre W → pre.length < (meetL xs ys).length → YieldAt Fence.wide (n - 1) Tryd.prog l (seqP x) W fun e W' =>
      (e = .returned (.bool true) ∧ J (pre ++ [x]) W' ∧ KpB B0 n₀ W W') ∨ (e = .returned (.bool false) ∧ Jx (pre ++ [x]) W'))
    (W : World) (hJa : AbidesFrom W.heap.size J) (hnW : n₀ ≤ W.heap.size) (hg : Glob W) (hG : Good B0 W) (hgn : 0 < n₀) (hBa1 : Ba < n₀) (hBb1 : Bb < n₀)
    (hBa : W.cell? ⟨Ba, 0, none⟩ = some (.slice A la ca)) (hBb : W.cell? ⟨Bb, 0, none⟩ = some (.slice B lb cb)) (hca : SlR encP 18 W n₀ A xs) (hcb : SlR encP 18 W n₀ B ys) (h0 : J [] W) :
    CallsIn Fence.wide n Tryd.prog 18 #[.func (.yield l) #[] #[], .pointer (some ⟨Ba, 0, none⟩), .pointer (some ⟨Bb, 0, none⟩)] W fun e W' => (∃ v, e = .returned v) ∧
      ((∃ zs, zs = meetL xs ys ∧ J zs W') ∨ (∃ pre, pre <+: meetL xs ys ∧ Jx pre W')) := by
  have Hla := Lib.hid hla
  have Hlb := Lib.hid hlb
  clear hla hlb
  refine callsIn_of_wp Tryd.func18 rfl trivial ?_ rfl
  simp only [Tryd.ntmps18, List.size_toArray, List.length_cons, List.length_nil, Nat.reduceAdd, Nat.reduceSub, Array.replicate_succ, Array.replicate_zero, List.push_toArray, List.append_toArray, List.nil_append, List.cons_append]
  gi_wp2
  gi_loopw [10] (fun i wr => ∃ k : Nat, k ≤ la ∧ i = .int .i64 k ∧ Hid (J (meetL (xs.take k) ys) wr) ∧ Below n₀ W wr ∧ Good B0 wr)
    (fun i _ => la - (intOf i).toNat)
  case atStart => exact ⟨0, Nat.zero_le _, rfl, Lib.hid (by simpa [meetL] using h0), Below.refl _ _, hG⟩
  case round =>
    obtain ⟨k, hk, rfl, hJs, hnx, hGr⟩ := hrel
    by_cases hlt : k < la
    · obtain ⟨p, hp⟩ : ∃ p, xs[k]? = some p := ⟨_, List.getElem?_eq_getElem (by have := Hla.out; omega)⟩
      obtain ⟨b, o, hAs, hbs, hrow⟩ := (hca.below hnx (Nat.le_refl _)).get hp
      subst hAs
      have hsz : n₀ ≤ wr.heap.size := by have := hnx.size; omega
      have hBb2 := (hnx.cell (p := ⟨Bb, 0, none⟩) hBb1).trans hBb
      have hlp : Bb < wr.heap.size := by omega
      have HP := Lib.hid hp
      clear hp
      have hJa2 := hJa
      have hkp := KpB.alloc (B0 := B0) wr hsz (.cells (encP p).toArray 35)
      obtain ⟨hG1, hne, hB0⟩ := hGr.box (.cells (encP p).toArray 35)
      have hnx1 := hnx.trans hkp.1
      have hJ1 : J (meetL (xs.take k) ys) (wr.alloc (.cells (encP p).toArray 35)) := hJa _ _ _ none hJs.out (World.grownBy_alloc _ _ _) (fun r e => by cases e)
      have hbp : BoxP (wr.alloc (.cells (encP p).toArray 35)) wr.heap.size p := World.alloc_heap_new wr _
      have HJ1 := Lib.hid hJ1
      have Hbp := Lib.hid hbp
      have Hne := Lib.hid hne
      have HB0 := Lib.hid hB0
      have HG1 := Lib.hid hG1
      have Hnx1 := Lib.hid hnx1
      clear hkp hG1 hnx1 hJ1 hbp hne hB0
      gi_wp2
      gi_loopw [16] (fun i wr2 => ∃ j : Nat, j ≤ lb ∧ i = .int .i64 j ∧ Hid (J (meetL (xs.take k) ys ++ rowL p (ys.take j)) wr2) ∧ Below n₀ W wr2 ∧ Good B0 wr2 ∧ Hid (BoxP wr2 wr.heap.size p) ∧ Hid (ownAt B0 wr2 ≠ some wr.heap.size))
        (fun i _ => lb - (intOf i).toNat)
      case atStart => exact ⟨0, Nat.zero_le _, rfl, Lib.hid (by simpa [rowL] using HJ1.out), Hnx1.out, HG1.out, Hbp, Hne⟩
      case round =>
        obtain ⟨j, hj, rfl, hJ2, hnx2, hG2, hbp2, hne2⟩ := hrel
        by_cases hlt2 : j < lb
        · obtain ⟨q, hq⟩ : ∃ q, ys[j]? = some q := ⟨_, List.getElem?_eq_getElem (by have := Hlb.out; omega)⟩
          obtain ⟨b2, o2, hAs2, hbs2, hrow2⟩ := (hcb.below hnx2 (Nat.le_refl _)).get hq
          subst hAs2
          have hsz2 : n₀ ≤ wr.heap.size := by have := hnx2.size; omega
          have hkq := KpB.alloc (B0 := B0) wr hsz2 (.cells (encP q).toArray 35)
          obtain ⟨hG3, hneq, hB0q⟩ := hG2.box (.cells (encP q).toArray 35)
          have hbq : BoxP (wr.alloc (.cells (encP q).toArray 35)) wr.heap.size q := World.alloc_heap_new wr _
          obtain ⟨hbp3, hne3, hlp3⟩ := hbp2.out.keep hkq hG2 hne2.out HB0.out
          have hnx3 := hnx2.trans hkq.1
          have hJ3 : J (meetL (xs.take k) ys ++ rowL p (ys.take j)) (wr.alloc (.cells (encP q).toArray 35)) := hJa2 _ _ _ none hJ2.out (World.grownBy_alloc _ _ _) (fun r e => by cases e)
          have hpre := meetL_prefix xs ys k (j + 1) p HP.out
          rw [rowL_snoc p ys j q hq, ← List.append_assoc] at hpre
          have hm1 : meet1 p q = if holdsP p q = true then some q else if holdsP q p = true ∧ p ≠ q then some p else none := rfl
          have hJg : ∀ d os, J (meetL (xs.take k) ys ++ rowL p (ys.take j)) (gw (wr.alloc (.cells (encP q).toArray 35)) d os) := fun d os => hJa2 _ _ _ none hJ3 (grownBy_gw _ d os) (fun r e => by cases e)
          have hKg : ∀ d os, KpB B0 n₀ (wr.alloc (.cells (encP q).toArray 35)) (gw (wr.alloc (.cells (encP q).toArray 35)) d os) := fun d os => KpB.gw _ (by have := hnx3.size; omega) d os
          have hGl := hg.under hnx3 hgn
          have ch := fun a b W (h : Glob W) => Calls.to_gw (holds_any a b W h)
          have rQ := hbq.row
          have rP := hbp3.row
          have hlp0 : wr.heap.size < (wr.alloc (.cells (encP q).toArray 35)).heap.size := by simp
          have Hmm := Lib.hid hm1
          have Hpre := Lib.hid hpre
          have HJg := Lib.hid hJg
          have HKg := Lib.hid hKg
          have HGl := Lib.hid hGl
          have Hch := Lib.hid ch
          have HbP := Lib.hid hbp3
          have HbQ := Lib.hid hbq
          have HQ := Lib.hid hq
          clear hJg hKg hGl ch hpre hm1 hq hkq hJ3 hbp3 hbq
          by_cases h1 : holdsP p q = true
          · have hm2 : meet1 p q = some q := by rw [Hmm.out, if_pos h1]
            have hpre2 := Hpre.out
            rw [hm2, Option.toList_some] at hpre2
            have hlen : (meetL (xs.take k) ys ++ rowL p (ys.take j)).length < (meetL xs ys).length := by
              have := hpre2.length_le
              simp at this ⊢; omega
            have Hlen := Lib.hid hlen
            have HP2 := Lib.hid hpre2
            clear hlen hpre2
            gi_wp2_with ((refine ⟨trivial, ?_⟩; gi_at_call 19; refine (callsIn_wide.2 (Hch.out _ _ _ HGl.out)).mono ?_; rintro e w' ⟨rfl, d, os, rfl⟩; rw [h1]; obtain ⟨fn, tmps, assign, body, hy, hR⟩ := hY _ q _ (HJg.out d os) Hlen.out; dsimp only [seqP] at hy))
            refine hR.mono ?_
            rintro e W3 (⟨rfl, hJ4, hk4⟩ | ⟨rfl, hJx4⟩)
            · have hkk := (HKg.out d os).trans hk4
              obtain ⟨hbp4, hne4, hlp4⟩ := HbP.out.keep hkk hG3 hne3 HB0.out
              obtain ⟨hbq4, hneq4, hlq4⟩ := HbQ.out.keep hkk hG3 hneq hB0q
              have rQ4 := hbq4.row
              have rP4 := hbp4.row
              have hnx4 := hnx3.trans hkk.1
              have hGl4 := hg.under hnx4 hgn
              have hG4 := (hkk.2 hG3).1
              have hsz4 : n₀ ≤ W3.heap.size := by have := hnx4.size; omega
              have hJ5 : ∀ d os, J (meetL (xs.take k) ys ++ rowL p (ys.take j) ++ [q]) (gw W3 d os) := fun d os => hJa2 _ _ _ none hJ4 (grownBy_gw _ d os) (fun r e => by cases e)
              have hk5 : ∀ d os, KpB B0 n₀ W3 (gw W3 d os) := fun d os => KpB.gw _ hsz4 d os
              have Hrow : Hid (rowL p (ys.take (j + 1)) = rowL p (ys.take j) ++ [q]) := Lib.hid (by rw [rowL_snoc p ys j q HQ.out, hm2]; rfl)
              have HJ5 := Lib.hid hJ5
              have HK5 := Lib.hid hk5
              have HN4 := Lib.hid hnx4
              have HG4 := Lib.hid hG4
              have HbP4 := Lib.hid hbp4
              clear hJ5 hk5 hJ4 hk4 hkk hnx4 hG4 hbp4
              by_cases h2 : holdsP q p = true
              · have hnF : (!decide (p = q)) = false := by rw [holds_antisymm p q h1 h2]; simp
                gi_wp2_with ((refine ⟨trivial, ?_⟩; gi_at_call 19; refine (callsIn_wide.2 (Hch.out _ _ _ hGl4)).mono ?_; rintro e w' ⟨rfl, d4, os4, rfl⟩; rw [h2]))
                refine ⟨fun _ h => (by cases h), ?_⟩
                gi_wp2
                go_roundw
                case rel => exact ⟨j + 1, by omega, by simp, by rw [Hrow.out, ← List.append_assoc]; exact Lib.hid (HJ5.out _ _), HN4.out.trans (HK5.out _ _).1, ((HK5.out _ _).2 HG4.out).1, Lib.hid (HbP4.out.keep (HK5.out _ _) HG4.out hne4 HB0.out).1, Lib.hid (HbP4.out.keep (HK5.out _ _) HG4.out hne4 HB0.out).2.1⟩
                case measure => simp [intOf]; omega
              · have h2' : holdsP q p = false := by simpa using h2
                gi_wp2_with ((refine ⟨trivial, ?_⟩; gi_at_call 19; refine (callsIn_wide.2 (Hch.out _ _ _ hGl4)).mono ?_; rintro e w' ⟨rfl, d4, os4, rfl⟩; rw [h2']))
                refine ⟨fun _ h => (by cases h), ?_⟩
                gi_wp2
                go_roundw
                case rel => exact ⟨j + 1, by omega, by simp, by rw [Hrow.out, ← List.append_assoc]; exact Lib.hid (HJ5.out _ _), HN4.out.trans (HK5.out _ _).1, ((HK5.out _ _).2 HG4.out).1, Lib.hid (HbP4.out.keep (HK5.out _ _) HG4.out hne4 HB0.out).1, Lib.hid (HbP4.out.keep (HK5.out _ _) HG4.out hne4 HB0.out).2.1⟩
                case measure => simp [intOf]; omega
            · gi_wp2
              refine ⟨trivial, ?_⟩
              gi_wp2
              case h_3 =>
                exfalso
                have hx : ∀ b : Bool, some undef = some (Value.bool b) → b = true → False := fun b h1 h2 => by subst h2; cases h1
                exact hx _ (by assumption) (by assumption)
              all_goals (try (refine ⟨fun _ h => (by cases h), ?_⟩; gi_wp2))
              all_goals (refine bodyPost_ret (results_none rfl _ _ _) rfl ?_; exact ⟨⟨_, rfl⟩, .inr ⟨_, HP2.out, hJx4⟩⟩)
          · have h1f : holdsP p q = false := by simpa using h1
            have Hch2 := Lib.hid fun a b d os => Calls.next_gw (holds_any a b _ (HGl.out.gw d os))
            by_cases h2 : holdsP q p = true
            · have hpq : p ≠ q := by rintro rfl; exact h1 h2
              have hm2 : meet1 p q = some p := by rw [Hmm.out, if_neg h1, if_pos ⟨h2, hpq⟩]
              have hnT : (!decide (p = q)) = true := by simp [hpq]
              have hpre2 := Hpre.out
              rw [hm2, Option.toList_some] at hpre2
              have hlen : (meetL (xs.take k) ys ++ rowL p (ys.take j)).length < (meetL xs ys).length := by
                have := hpre2.length_le
                simp at this ⊢; omega
              have Hlen := Lib.hid hlen
              have HP2 := Lib.hid hpre2
              have HPQ := Lib.hid hpq
              have Hm2 := Lib.hid hm2
              have rPg : ∀ d os, rowAt (gw (wr.alloc (.cells (encP q).toArray 35)) d os) _ 0 18 = some (encP p) := fun d os => (rowAt_gw _ d os _ 0 18 hlp3).trans rP
              have rQg : ∀ d os, rowAt (gw (wr.alloc (.cells (encP q).toArray 35)) d os) _ 0 18 = some (encP q) := fun d os => (rowAt_gw _ d os _ 0 18 hlp0).trans rQ
              clear hlen hpre2 hpq hm2 h1
              gi_wp2_with ((refine ⟨trivial, ?_⟩; gi_at_call 19; refine (callsIn_wide.2 (Hch.out _ _ _ HGl.out)).mono ?_; rintro e w' ⟨rfl, d, os, rfl⟩; rw [h1f]))
              refine ⟨fun _ h => (by cases h), ?_⟩
              gi_wp2_with ((refine ⟨trivial, ?_⟩; gi_at_call 19; refine (callsIn_wide.2 (Hch2.out _ _ _ _)).mono ?_; rintro e w' ⟨rfl, d2, os2, rfl⟩; rw [h2]; obtain ⟨fn, tmps, assign, body, hy, hR⟩ := hY _ p _ (HJg.out d2 os2) Hlen.out; dsimp only [seqP] at hy))
              refine hR.mono ?_
              rintro e W3 (⟨rfl, hJ4, hk4⟩ | ⟨rfl, hJx4⟩)
              · gi_wp2
                have hkk := (HKg.out d2 os2).trans hk4
                obtain ⟨hbp4, hne4, hlp4⟩ := HbP.out.keep hkk hG3 hne3 HB0.out
                have hnx4 := hnx3.trans hkk.1
                have hG4 := (hkk.2 hG3).1
                have Hrow : rowL p (ys.take (j + 1)) = rowL p (ys.take j) ++ [p] := by rw [rowL_snoc p ys j q HQ.out, Hm2.out]; rfl
                go_roundw
                case rel => exact ⟨j + 1, by omega, by simp, by rw [Hrow, ← List.append_assoc]; exact Lib.hid hJ4, hnx4, hG4, Lib.hid hbp4, Lib.hid hne4⟩
                case measure => simp [intOf]; omega
              · gi_wp2
                refine bodyPost_ret (results_none rfl _ _ _) rfl ?_
                exact ⟨⟨_, rfl⟩, .inr ⟨_, HP2.out, hJx4⟩⟩
            · have h2f : holdsP q p = false := by simpa using h2
              have hm2 : meet1 p q = none := by rw [Hmm.out, if_neg h1, if_neg (by rintro ⟨h3, _⟩; exact h2 h3)]
              have Hm2 := Lib.hid hm2
              have rPg : ∀ d os, rowAt (gw (wr.alloc (.cells (encP q).toArray 35)) d os) _ 0 18 = some (encP p) := fun d os => (rowAt_gw _ d os _ 0 18 hlp3).trans rP
              have rQg : ∀ d os, rowAt (gw (wr.alloc (.cells (encP q).toArray 35)) d os) _ 0 18 = some (encP q) := fun d os => (rowAt_gw _ d os _ 0 18 hlp0).trans rQ
              clear hm2 h1 h2
              gi_wp2_with ((refine ⟨trivial, ?_⟩; gi_at_call 19; refine (callsIn_wide.2 (Hch.out _ _ _ HGl.out)).mono ?_; rintro e w' ⟨rfl, d, os, rfl⟩; rw [h1f]))
              refine ⟨fun _ h => (by cases h), ?_⟩
              gi_wp2_with ((refine ⟨trivial, ?_⟩; gi_at_call 19; refine (callsIn_wide.2 (Hch2.out _ _ _ _)).mono ?_; rintro e w' ⟨rfl, d2, os2, rfl⟩; rw [h2f]))
              refine ⟨fun _ h => (by cases h), ?_⟩
              gi_wp2
              have hkk := HKg.out d2 os2
              obtain ⟨hbp4, hne4, hlp4⟩ := HbP.out.keep hkk hG3 hne3 HB0.out
              have hnx4 := hnx3.trans hkk.1
              have hG4 := (hkk.2 hG3).1
              have Hrow : rowL p (ys.take (j + 1)) = rowL p (ys.take j) := by rw [rowL_snoc p ys j q HQ.out, Hm2.out]; simp
              go_roundw
              case rel => exact ⟨j + 1, by omega, by simp, by rw [Hrow]; exact Lib.hid (HJg.out _ _), hnx4, hG4, Lib.hid hbp4, Lib.hid hne4⟩
              case measure => simp [intOf]; omega
        · obtain rfl : j = lb := by omega
          have e : ys.take j = ys := List.take_of_length_le (by have := Hlb.out; omega)
          rw [e] at hJ2
          gi_wp2
          go_roundw
          case rel => exact ⟨k + 1, by omega, by simp, Lib.hid (by rw [meetL_snoc _ _ _ _ HP.out]; exact hJ2.out), hnx2, hG2⟩
          case measure => simp [intOf]; omega
    · obtain rfl : k = la := by omega
      have e : xs.take k = xs := List.take_of_length_le (by have := Hla.out; omega)
      gi_wp2
      go_end0
      exact ⟨⟨_, rfl⟩, .inl ⟨_, by rw [e], hJs.out⟩⟩

theorem meet_stops (n : Nat) (hn : 1 ≤ n) (B0 Ba Bb n₀ la ca lb cb : Nat) (A B : Option Addr) (xs ys : List Pfx) (hla : la = xs.length) (hlb : lb = ys.length) (hra : la ≤ 1000000) (hrb : lb ≤ 1000000) (w : World) (hn₀ : n₀ ≤ w.heap.size)
    (hg : Glob w) (hG : Good B0 w) (hgn : 0 < n₀) (hBa1 : Ba < n₀) (hBb1 : Bb < n₀)
    (hBa : w.cell? ⟨Ba, 0, none⟩ = some (.slice A la ca)) (hBb : w.cell? ⟨Bb, 0, none⟩ = some (.slice B lb cb)) (hca : SlR encP 18 w n₀ A xs) (hcb : SlR encP 18 w n₀ B ys) :
    SeqStopsK Fence.wide n Tryd.prog 18 #[.pointer (some ⟨Ba, 0, none⟩), .pointer (some ⟨Bb, 0, none⟩)] seqP (KpB B0 n₀) (fun zs => zs = meetL xs ys) (fun pre => pre <+: meetL xs ys) (meetL xs ys).length w := fun l J Jx W hW hJ _ hY h0 =>
  meet1_in n hn l B0 Ba Bb n₀ la ca lb cb A B xs ys hla hlb hra hrb J Jx hY W hJ (Nat.le_trans hn₀ hW.size) (hg.below hW) (hG.below hW) hgn hBa1 hBb1 ((hW.cell (p := ⟨Ba, 0, none⟩) (Nat.lt_of_lt_of_le hBa1 hn₀)).trans hBa) ((hW.cell (p := ⟨Bb, 0, none⟩) (Nat.lt_of_lt_of_le hBb1 hn₀)).trans hBb) (hca.below (hW.mono hn₀) (Nat.le_refl _)) (hcb.below (hW.mono hn₀) (Nat.le_refl _)) h0
end Go.Proofs.YtfdebdbmdbmbbaaDoor
