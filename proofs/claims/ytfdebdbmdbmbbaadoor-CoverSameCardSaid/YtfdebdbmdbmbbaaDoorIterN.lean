/- Minus's iterator: by contract. -/
import Derived.Test.YtfdebdbmdbmbbaaDoorIterR
set_option linter.unusedSimpArgs false
set_option linter.unusedVariables false
namespace Go.Proofs.YtfdebdbmdbmbbaaDoor
open Go.RowKit Go.Shelf

attribute [local go_sem] Oper.semAt_some

theorem minusL_snoc (a b : List Pfx) (k : Nat) (p : Pfx) (h : a[k]? = some p) : minusL (a.take (k + 1)) b = minusL (a.take k) b ++ restL 129 p b := by
  rw [List.take_add_one, h, minusL, minusL, List.flatMap_append]
  simp
theorem minusL_prefix (a b : List Pfx) (k : Nat) : minusL (a.take k) b <+: minusL a b := by
  refine ⟨minusL (a.drop k) b, ?_⟩
  rw [minusL, minusL, minusL, ← List.flatMap_append, List.take_append_drop]

set_option maxRecDepth 100000 in
set_option maxHeartbeats 4000000 in
theorem minus1_in (n : Nat) (l B0 Ba Bb n₀ la ca lb cb : Nat) (A B : Option Addr) (xs ys : List Pfx) (hla : la = xs.length) (hlb : lb = ys.length) (hra : la ≤ 1000) (hrb : lb ≤ 1000) (J Jx : List Pfx → World → Prop)
    (hxs : ∀ p ∈ xs, okP p = true) (hys : ∀ p ∈ ys, okP p = true)
    (hY : ∀ pre x W, J pre W → pre.length < (minusL xs ys).length → YieldAt Fence.wide (n - 1) Tryd.prog l (seqP x) W fun e W' =>
      (e = .returned (.bool true) ∧ J (pre ++ [x]) W' ∧ KpB B0 n₀ W W') ∨ (e = .returned (.bool false) ∧ Jx (pre ++ [x]) W'))
    (W : World) (hJa : AbidesFrom W.heap.size J) (hnW : n₀ ≤ W.heap.size) (hg : Glob W) (hG : Good B0 W) (hgn : 0 < n₀) (hBa1 : Ba < n₀) (hBb1 : Bb < n₀)
    (hBa : W.cell? ⟨Ba, 0, none⟩ = some (.slice A la ca)) (hBb : W.cell? ⟨Bb, 0, none⟩ = some (.slice B lb cb)) (hca : SlR encP 18 W n₀ A xs) (hcb : SlK B0 W B ys) (h0 : J [] W) :
    CallsIn Fence.wide n Tryd.prog 21 #[.func (.yield l) #[] #[], .pointer (some ⟨Ba, 0, none⟩), .pointer (some ⟨Bb, 0, none⟩)] W fun e W' => (∃ v, e = .returned v) ∧
      ((∃ zs, zs = minusL xs ys ∧ J zs W') ∨ (∃ pre, pre <+: minusL xs ys ∧ Jx pre W')) := by
  have Hla := Lib.hid hla
  have Hlb := Lib.hid hlb
  have Hxs := Lib.hid hxs
  have Hys := Lib.hid hys
  have Hcb := Lib.hid hcb
  have hr := rest_in l B0 n₀ W.heap.size (minusL xs ys).length J Jx (fun m pre x W h1 h2 => YieldAt.anyDepth m (hY pre x W h1 h2)) hJa hgn 129
  have Hr := Lib.hid hr
  clear hla hlb hxs hys hr hcb
  refine callsIn_of_wp Tryd.func21 rfl trivial ?_ rfl
  simp only [Tryd.ntmps21, List.size_toArray, List.length_cons, List.length_nil, Nat.reduceAdd, Nat.reduceSub, Array.replicate_succ, Array.replicate_zero, List.push_toArray, List.append_toArray, List.nil_append, List.cons_append]
  gi_wp2
  gi_loopw [8] (fun i wr => ∃ k : Nat, k ≤ la ∧ i = .int .i64 k ∧ Hid (J (minusL (xs.take k) ys) wr) ∧ Below n₀ W wr ∧ Good B0 wr ∧ Hid (SlK B0 wr B ys))
    (fun i _ => la - (intOf i).toNat)
  case atStart => exact ⟨0, Nat.zero_le _, rfl, Lib.hid (by simpa [minusL] using h0), Below.refl _ _, hG, Hcb⟩
  case round =>
    obtain ⟨k, hk, rfl, hJs, hnx, hGr, hsb⟩ := hrel
    by_cases hlt : k < la
    · obtain ⟨p, hp⟩ : ∃ p, xs[k]? = some p := ⟨_, List.getElem?_eq_getElem (by have := Hla.out; omega)⟩
      obtain ⟨b, o, hAs, hbs, hrow⟩ := (hca.below hnx (Nat.le_refl _)).get hp
      subst hAs
      have hsz : n₀ ≤ wr.heap.size := by have := hnx.size; omega
      have hBb2 := (hnx.cell (p := ⟨Bb, 0, none⟩) hBb1).trans hBb
      have hlp : Bb < wr.heap.size := by omega
      have hkp := KpB.alloc (B0 := B0) wr hsz (.cells (encP p).toArray 35)
      have hG1 := (hkp.2 hGr).1
      have hnx1 := hnx.trans hkp.1
      have hJ1 : J (minusL (xs.take k) ys) (wr.alloc (.cells (encP p).toArray 35)) := hJa _ _ _ none hJs.out (World.grownBy_alloc _ _ _) (fun r e => by cases e)
      have hs1 := hsb.out.keep hkp hGr
      have hpre := minusL_prefix xs ys (k + 1)
      rw [minusL_snoc xs ys k p hp] at hpre
      have c := Hr.out (n - 1) p ys B lb cb _ _ (Hxs.out p (List.mem_of_getElem? hp)) Hys.out (by omega) Hlb.out hrb hs1 hG1 (hg.under hnx1 hgn) hJ1 (by simp; omega) (by have := hpre.length_le; simpa using this)
      have hsn := minusL_snoc xs ys k p hp
      have Hsn := Lib.hid hsn
      have Hpre := Lib.hid hpre
      have Hnx1 := Lib.hid hnx1
      have HG1 := Lib.hid hG1
      have Hs1 := Lib.hid hs1
      clear hp hkp hG1 hnx1 hJ1 hs1 hpre hsn
      gi_wp2_with fail
      refine ⟨trivial, wide_depth _, ?_⟩
      (with_reducible refine c.mono ?_)
      clear c
      rintro e W3 (⟨rfl, hJ3, hk3⟩ | ⟨rfl, q, hq, hx3⟩)
      · gi_wp2
        go_roundw
        case rel => exact ⟨k + 1, by omega, by simp, by rw [Hsn.out]; exact Lib.hid hJ3, Hnx1.out.trans hk3.1, (hk3.2 HG1.out).1, Lib.hid (Hs1.out.keep hk3 HG1.out)⟩
        case measure => simp [intOf]; omega
      · gi_wp2
        refine bodyPost_ret (results_none rfl _ _ _) rfl ?_
        refine ⟨⟨_, rfl⟩, .inr ⟨_, ?_, hx3⟩⟩
        obtain ⟨t, ht⟩ := hq
        refine List.IsPrefix.trans ⟨t, ?_⟩ Hpre.out
        rw [← ht, List.append_assoc]
    · obtain rfl : k = la := by omega
      have e : xs.take k = xs := List.take_of_length_le (by have := Hla.out; omega)
      gi_wp2
      go_end0
      exact ⟨⟨_, rfl⟩, .inl ⟨_, by rw [e], hJs.out⟩⟩

theorem own_new (w : World) (t : TypeId) : Good w.heap.size (w.alloc (.cells #[.slice none 0 0] t)) ∧ ownAt w.heap.size (w.alloc (.cells #[.slice none 0 0] t)) = none := by
  have h : (w.alloc (.cells #[.slice none 0 0] t)).cell? ⟨w.heap.size, 0, none⟩ = some (.slice none 0 0) := by simp [go_sem]
  have e : ownAt w.heap.size (w.alloc (.cells #[.slice none 0 0] t)) = none := by unfold ownAt; rw [h]; rfl
  exact ⟨⟨⟨_, h⟩, fun b hb => by rw [e] at hb; cases hb⟩, e⟩
theorem ownAt_below {B0 : Nat} {w w' : World} (h : Good B0 w) (hb : Below w.heap.size w w') : ownAt B0 w' = ownAt B0 w := by
  obtain ⟨⟨v, hv⟩, _⟩ := h
  have hc := (hb.cell (p := ⟨B0, 0, none⟩) (cell_in hv)).trans hv
  unfold ownAt; rw [hc, hv]

/-- Minus's iterator, as collected meets it: behind the collector's new box. -/
theorem minus_stops (n : Nat) (Ba Bb la ca lb cb : Nat) (A B : Option Addr) (xs ys : List Pfx) (hla : la = xs.length) (hlb : lb = ys.length) (hra : la ≤ 1000) (hrb : lb ≤ 1000) (hxs : ∀ p ∈ xs, okP p = true) (hys : ∀ p ∈ ys, okP p = true) (w : World) (t : TypeId)
    (hg : Glob w) (hBa : w.cell? ⟨Ba, 0, none⟩ = some (.slice A la ca)) (hBb : w.cell? ⟨Bb, 0, none⟩ = some (.slice B lb cb)) (hca : SlR encP 18 w w.heap.size A xs) (hcb : SlR encP 18 w w.heap.size B ys) :
    SeqStopsK Fence.wide n Tryd.prog 21 #[.pointer (some ⟨Ba, 0, none⟩), .pointer (some ⟨Bb, 0, none⟩)] seqP (KpB w.heap.size w.heap.size) (fun zs => zs = minusL xs ys) (fun pre => pre <+: minusL xs ys) (minusL xs ys).length (w.alloc (.cells #[.slice none 0 0] t)) := fun l J Jx W hW hJ _ hY h0 => by
  have hb : Below w.heap.size w W := ((Below.refl _ _).alloc (Nat.le_refl _) _).trans (hW.mono (by simp))
  obtain ⟨hG, hO⟩ := own_new w t
  have hOW := (ownAt_below hG hW).trans hO
  have hBa1 := cell_in hBa
  have hBb1 := cell_in hBb
  refine minus1_in n l w.heap.size Ba Bb w.heap.size la ca lb cb A B xs ys hla hlb hra hrb J Jx hxs hys hY W hJ hb.size (hg.below hb) (hG.below hW) hg.lt hBa1 hBb1 ((hb.cell (p := ⟨Ba, 0, none⟩) hBa1).trans hBa) ((hb.cell (p := ⟨Bb, 0, none⟩) hBb1).trans hBb) (hca.below hb (Nat.le_refl _)) ?_ h0
  rcases hcb.below hb (Nat.le_refl _) with h | ⟨b, o, h1, h2, h3⟩
  · exact .inl h
  · exact .inr ⟨b, o, h1, ⟨Nat.lt_of_lt_of_le h2 hb.size, by omega, by rw [hOW]; simp⟩, h3⟩
/-- Meet's. -/
theorem meet_stops' (n : Nat) (hn : 1 ≤ n) (Ba Bb la ca lb cb : Nat) (A B : Option Addr) (xs ys : List Pfx) (hla : la = xs.length) (hlb : lb = ys.length) (hra : la ≤ 1000) (hrb : lb ≤ 1000) (w : World) (t : TypeId)
    (hg : Glob w) (hBa : w.cell? ⟨Ba, 0, none⟩ = some (.slice A la ca)) (hBb : w.cell? ⟨Bb, 0, none⟩ = some (.slice B lb cb)) (hca : SlR encP 18 w w.heap.size A xs) (hcb : SlR encP 18 w w.heap.size B ys) :
    SeqStopsK Fence.wide n Tryd.prog 18 #[.pointer (some ⟨Ba, 0, none⟩), .pointer (some ⟨Bb, 0, none⟩)] seqP (KpB w.heap.size w.heap.size) (fun zs => zs = meetL xs ys) (fun pre => pre <+: meetL xs ys) (meetL xs ys).length (w.alloc (.cells #[.slice none 0 0] t)) := by
  have hb : Below w.heap.size w (w.alloc (.cells #[.slice none 0 0] t)) := (Below.refl _ _).alloc (Nat.le_refl _) _
  have hBa1 := cell_in hBa
  have hBb1 := cell_in hBb
  exact meet_stops n hn w.heap.size Ba Bb w.heap.size la ca lb cb A B xs ys hla hlb (by omega) (by omega) _ hb.size (hg.below hb) (own_new w t).1 hg.lt hBa1 hBb1 ((hb.cell (p := ⟨Ba, 0, none⟩) hBa1).trans hBa) ((hb.cell (p := ⟨Bb, 0, none⟩) hBb1).trans hBb) (hca.below hb (Nat.le_refl _)) (hcb.below hb (Nat.le_refl _))
end Go.Proofs.YtfdebdbmdbmbbaaDoor
