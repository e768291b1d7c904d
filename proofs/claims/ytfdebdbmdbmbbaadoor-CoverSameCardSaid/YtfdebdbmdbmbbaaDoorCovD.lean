/- The walk of cover.one. -/
import Derived.Test.YtfdebdbmdbmbbaaDoorCovC
import Derived.Test.YtfdebdbmdbmbbaaDoorOneL
import Derived.Deep.DeepCutAuto
set_option linter.unusedSimpArgs false
set_option linter.unusedVariables false
namespace Go.Proofs.YtfdebdbmdbmbbaaDoor
open Go.RowKit Go.Sort

def oneL (xs : List Pfx) : List Pfx := (sortL xs).foldl pushP []

/-- A row of the call's own, element by element. -/
theorem own_get {w : World} {base e : Nat} {A : Option Addr} {m c : Nat} {O : List Pfx} (h : w.ownsRow base e 18 (.slice A m c) m (flat encP O)) (hm : m = O.length) (i : Nat) (hi : i < m) :
    ∃ g, A = some ⟨g, 0, none⟩ ∧ g < w.heap.size ∧ m ≤ c ∧ ∀ j, j < m → rowAt w g (j * 18) 18 = some (encP (O.getD j pfx0)) := by
  rcases SlR.of_own (enc := encP) (k := 18) encP_length (by omega) hm.symm h with h0 | ⟨b, o, hA, hlt, hr⟩
  · subst h0; simp at hm; omega
  · rcases h.2 with ⟨_, h1⟩ | ⟨g, cap, cur, hv, _, _, hmc, _⟩
    · omega
    · injection hv with e1 _ e5
      rw [e1] at hA
      injection hA with e2
      injection e2 with e3 e4
      subst e3; subst e4; subst e5
      refine ⟨g, e1, hlt, hmc, fun j hj => ?_⟩
      have := hr j (O.getD j pfx0) (by rw [List.getD_eq_getElem?_getD, List.getElem?_eq_getElem (by omega)]; simp)
      rwa [Nat.zero_add] at this
theorem own_cap {w : World} {base e : Nat} {A : Option Addr} {m c : Nat} {O : List Pfx} (h : w.ownsRow base e 18 (.slice A m c) m (flat encP O)) (hm : m = O.length) : m ≤ c := by
  rcases Nat.eq_zero_or_pos m with h0 | h0
  · omega
  · obtain ⟨_, _, _, h1, _⟩ := own_get h hm 0 h0
    exact h1
theorem own_take {w : World} {base e k : Nat} {A : Option Addr} {m c : Nat} {α : Type} {enc : α → List Value} (hk : ∀ x, (enc x).length = k) {O : List α} (h : w.ownsRow base e k (.slice A m c) m (flat enc O)) (hm : m = O.length) (j : Nat) (hj : j ≤ m) (hA : A ≠ none) :
    w.ownsRow base e k (.slice A j c) j (flat enc (O.take j)) := by
  rcases h.2 with ⟨h1, _⟩ | ⟨g, cap, cur, hv, hg, hh, hn, hc, hs, ht⟩
  · injection h1 with h1; exact absurd h1 hA
  · injection hv with e1 _ e3
    subst e1; subst e3
    refine ⟨by rw [flat_length hk, List.length_take, Nat.min_eq_left (by omega)], .inr ⟨g, c, cur, rfl, hg, hh, by omega, hc, hs, ?_⟩⟩
    have : cur.toList.take (j * k) = (cur.toList.take (m * k)).take (j * k) := by
      rw [List.take_take, Nat.min_eq_left (Nat.mul_le_mul_right k hj)]
    rw [this, ht]
    have e : flat enc O = flat enc (O.take j) ++ flat enc (O.drop j) := by rw [← flat_append, List.take_append_drop]
    have hl : (flat enc (O.take j)).length = j * k := by rw [flat_length hk, List.length_take, Nat.min_eq_left (by omega)]
    rw [e, List.take_append_of_le_length (by omega), List.take_of_length_le (by omega)]
theorem own_keep {w w' : World} {base e k : Nat} {v : Value} {m : Nat} {l : List Value} (h : w.ownsRow base e k v m l) (hb : Below w.heap.size w w') : w'.ownsRow base e k v m l := by
  refine ⟨h.1, ?_⟩
  rcases h.2 with h2 | ⟨g, cap, cur, hv, hg, hh, r⟩
  · exact .inl h2
  · exact .inr ⟨g, cap, cur, hv, hg, (hb.block g (Array.getElem?_eq_some_iff.1 hh).1).trans hh, r⟩
theorem own_below {w w' : World} {base e k : Nat} {v : Value} {m : Nat} {l : List Value} (h : w.ownsRow base e k v m l) (hb : base ≤ base) : w.ownsRow base e k v m l := h

theorem encP_last (p : Pfx) : (encP p)[17]? = some (.int .i64 p.bits) := by
  show (encA p.a ++ [Value.int .i64 p.bits])[17]? = _
  rw [List.getElem?_append_right (by rw [encA_length]; omega), encA_length]
  rfl
/-- The box that a literal of one prefix lays. -/
theorem one_new (W : World) (t : TypeId) (x : Pfx) (n : Nat) (hn : n = W.heap.size) : SlR encP 18 (W.alloc (.cells (encP x).toArray t)) (W.alloc (.cells (encP x).toArray t)).heap.size (some ⟨n, 0, none⟩) [x] := by
  refine .inr ⟨n, 0, rfl, by simp; omega, fun i y hy => ?_⟩
  match i with
  | 0 =>
    simp only [List.getElem?_cons_zero, Option.some.injEq] at hy
    subst hy
    rw [rowAt_alloc_new _ _ _ _ _ _ _ hn]
    simp [go_sem]
  | i + 1 => simp at hy

set_option maxRecDepth 100000 in
set_option maxHeartbeats 2000000 in
theorem one_any (rs : List SRow) (Br cr n N : Nat) (w : World) (hgl : Glob w) (hB : Br < w.heap.size) (hn : n = rs.length) (hN : N = (catL rs).length) (hN1 : N ≤ 500000) (hn1 : n ≤ 1000)
    (hc : ∀ i r, rs[i]? = some r → w.cell? ⟨Br, i, none⟩ = some r.v) (hr : ∀ r ∈ rs, r.ok w) (hbo : ∀ p ∈ catL rs, bitsOk p) :
    Calls Tryd.prog 24 #[.slice (some ⟨Br, 0, none⟩) n cr] w fun e w' => ∃ A m c, e = .returned (.slice A m c) ∧ m = (oneL (catL rs)).length ∧ SlP w' w'.heap.size A (oneL (catL rs)) ∧ Below w.heap.size w w' ∧ (A = none → c = 0) ∧ m ≤ c := by
  have cc := concat_any rs Br cr n N w hB hn hN hN1 hn1 hc hr
  have hS : (sortL (catL rs)).length = N := by rw [hN]; simp [sortL]
  have hSb : ∀ p ∈ sortL (catL rs), bitsOk p := fun p hp => hbo p (by simpa [sortL] using hp)
  have ho : oneL (catL rs) = (sortL (catL rs)).foldl pushP [] := rfl
  have hNs := hN.symm
  rw [ho]
  have cs := fun A c W h => sortP_own w.heap.size A N c (catL rs) W hNs h (by omega)
  generalize sortL (catL rs) = S at hS hSb cs ⊢
  generalize catL rs = C at cc cs
  have HS := Lib.hid hS
  have HSb := Lib.hid hSb
  clear hc hr hbo ho hS hSb hN hn hNs
  go_enter Tryd.func24, Tryd.ntmps24
  go_wp2_with fail
  refine cc.mono ?_
  rintro e w1 ⟨A1, c1, rfl, hown1, hb1, hA1⟩
  go_wp2_with fail
  refine (cs _ _ _ hown1).mono ?_
  rintro e w2 ⟨rfl, hown2, hb2⟩
  have hb12 := hb1.trans hb2
  have hsl := SlR.of_own (enc := encP) (k := 18) encP_length (by omega) HS.out hown2
  have Hsl := Lib.hid hsl
  have hgl2 := Lib.hid (hgl.below hb12)
  clear hown1 hown2 hA1 cs cc hb1 hb2 hsl hgl
  have hN0 : N ≤ 500000 := hN1
  go_wp2
  go_loopw [4, 6, 7, 8, 15] (fun v _ _ _ c wr => ∃ (k : Nat) (A : Option Addr) (cc m : Nat), k ≤ N ∧ c = .int .i64 k ∧ v = .slice A m cc ∧ Hid (m = ((S.take k).foldl pushP []).length) ∧ m ≤ k ∧ Hid (wr.ownsRow w2.heap.size 35 18 (.slice A m cc) m (flat encP ((S.take k).foldl pushP []))) ∧ Below w2.heap.size w2 wr ∧ Hid (A = none → cc = 0) ∧ Hid (∀ p ∈ (S.take k).foldl pushP [], bitsOk p)) (fun _ _ _ _ c _ => N - (intOf c).toNat)
  case atStart => exact ⟨0, none, 0, 0, by omega, rfl, rfl, Lib.hid (by simp), by omega, Lib.hid (by simpa [flat] using World.ownsRow_nil _ _ _ _), Below.refl _ _, Lib.hid fun _ => rfl, Lib.hid (by simp)⟩
  case round =>
    obtain ⟨k, A, cc, m, hk, rfl, rfl, hm, hmk, hown, hbel, hA, hOb⟩ := hrel
    by_cases hlt : k < N
    · obtain ⟨x, hx⟩ : ∃ x, S[k]? = some x := ⟨_, List.getElem?_eq_getElem (by have := HS.out; omega)⟩
      obtain ⟨b, o, hAs, hbs, hrow⟩ := (Hsl.out.below hbel (Nat.le_refl _)).get hx
      subst hAs
      have hbx := HSb.out x (List.mem_of_getElem? hx)
      have hfold := foldl_take_succ pushP [] S k x hx
      generalize (S.take k).foldl pushP [] = O at hm hown hOb hfold
      have Hfold := Lib.hid hfold
      have Hbx := Lib.hid hbx
      have hbs2 : b < wr.heap.size := by have := hbel.size; omega
      clear hx hfold hbx
      have hglr := hgl2.out.below hbel
      have ch := fun d os => holds_any (lastP O) x _ ((hglr.alloc (.cells (encP x).toArray 35)).gw d os)
      have hpush : pushP O x = if (decide (0 < O.length) && holdsP (lastP O) x) = true then O else mergeF (O.length + 1) (O ++ [x]) := rfl
      have hcB : (decide (0 < O.length) && holdsP (lastP O) x) = (decide (0 < m) && holdsP (lastP O) x) := by rw [hm.out]
      rw [hcB] at hpush
      clear hcB
      generalize holdsP (lastP O) x = hB1 at ch hpush
      have Hpush := Lib.hid hpush
      have Hch := Lib.hid ch
      have hgR := Lib.hid hglr
      clear ch hglr hpush
      obtain ⟨cB, HcB⟩ : ∃ c, Hid ((decide (0 < m) && hB1) = c) := ⟨_, Lib.hid rfl⟩
      go_upto_region 8 with fail
      go_cut [31] (fun v wx => v = .bool cB ∧ ∃ d os, wx = gw (wr.alloc (.cells (encP x).toArray 35)) d os)
      case first =>
        by_cases hm0 : m = 0
        · subst hm0
          have hd : decide ((0 : Int) < 0) = false := by simp
          refine wp_region_gw (by kernel_rfl) (by kernel_rfl) ?_
          repeat (go_big_quiet_step (fail))
          refine wpQuiet_nil ?_
          intro dq osq
          go_wp2_with fail
          go_meet
          case rel => exact ⟨by rw [← HcB.out]; simp, dq, osq, rfl⟩
        · obtain ⟨m', rfl⟩ : ∃ m', m = m' + 1 := ⟨m - 1, by omega⟩
          obtain ⟨g, hAg, hgs, hmc, hget⟩ := own_get hown.out hm.out m' (by omega)
          subst hAg
          have hl := hget m' (by omega)
          have hlast : O.getD m' pfx0 = lastP O := by unfold lastP; rw [← hm.out]; rfl
          rw [hlast] at hl
          have hl2 : ∀ d os, rowAt (gw (wr.alloc (.cells (encP x).toArray 35)) d os) g (m' * 18) 18 = some (encP (lastP O)) := fun d os => by rw [rowAt_gw _ _ _ _ _ _ (by simp; omega), rowAt_alloc_old _ _ _ _ _ hgs, hl]
          clear hl
          have hd : decide ((0 : Int) < ((m' + 1 : Nat) : Int)) = true := by simp
          clear hlast hget
          have ch := Hch.out

          generalize lastP O = L at hl2 ch Hch
          refine wp_region_gw (by kernel_rfl) (by kernel_rfl) ?_
          repeat (go_big_quiet_step ((go_at_call 19; exact Calls.in_gw (ch _ _))))
          refine wpQuiet_nil ?_
          intro dq osq
          go_wp2_with fail
          go_meet
          case rel => exact ⟨by rw [← HcB.out]; simp, dq, osq, rfl⟩
      case rest =>
        obtain ⟨rfl, d, os, rfl⟩ := hcut
        have hbW : Below wr.heap.size wr ((gw (wr.alloc (.cells (encP x).toArray 35)) d os).alloc (.cells (encP x).toArray 35)) := by
          repeat (first | with_reducible exact Below.refl _ _ | with_reducible assumption | with_reducible refine below_gw' ?_ (by simp [gw_size] <;> omega) _ _ | with_reducible refine Below.alloc ?_ (by simp [gw_size] <;> omega) _ | with_reducible refine Below.drew ?_ | with_reducible refine below_setCells ?_ _ _ _ (by simp [gw_size] <;> omega))
        cases cB
        · have hP : pushP O x = mergeF (O.length + 1) (O ++ [x]) := by rw [Hpush.out, HcB.out]; simp
          have HP := Lib.hid hP
          have fo := own_keep hown.out hbW
          have fs : SlR encP 18 ((gw (wr.alloc (.cells (encP x).toArray 35)) d os).alloc (.cells (encP x).toArray 35)) ((gw (wr.alloc (.cells (encP x).toArray 35)) d os).alloc (.cells (encP x).toArray 35)).heap.size (some ⟨wr.heap.size + 1 + os.size, 0, none⟩) [x] := one_new (gw (wr.alloc (.cells (encP x).toArray 35)) d os) _ x (wr.heap.size + 1 + os.size) (by rw [gw_size]; simp)
          have hbb : w2.heap.size ≤ ((gw (wr.alloc (.cells (encP x).toArray 35)) d os).alloc (.cells (encP x).toArray 35)).heap.size := by have := hbel.size; have := hbW.size; omega
          have hbt := hbel.trans (hbW.mono hbel.size)
          have Fo := Lib.hid fo
          have Fs := Lib.hid fs
          have Hbb := Lib.hid hbb
          have Hbt := Lib.hid hbt
          clear hbW hP fo fs hbb hbt
          go_wp2_with ((at_builtin; refine appP rfl (.tmp 32) (.tmp 34) rfl w2.heap.size O [x] m 1 A cc rfl hm.out Fo.out _ _ _ rfl rfl Fs.out (fun h => by cases h) (by omega) Hbb.out ?_; rintro A2 c2 w3 hown3 hb3 hA3))
          have hb3' := Hbt.out.trans hb3
          have Hb3 := Lib.hid hb3'
          have hbo1 : ∀ p ∈ O ++ [x], bitsOk p := fun q hq => by
            rw [List.mem_append, List.mem_singleton] at hq
            rcases hq with hq | rfl
            · exact hOb.out q hq
            · exact Hbx.out
          have Hbo1 := Lib.hid hbo1
          clear hb3' hb3 Fo Fs Hbb Hbt hbo1
          go_loopw [4, 8] (fun v u wr2 => ∃ (O2 : List Pfx) (A2 : Option Addr) (c2 m2 f : Nat), v = .slice A2 m2 c2 ∧ u = .int .i64 m2 ∧ Hid (m2 = O2.length) ∧ 0 < m2 ∧ m2 ≤ k + 1 ∧ m2 ≤ f ∧ Hid (mergeF f O2 = pushP O x) ∧ Hid (wr2.ownsRow w2.heap.size 35 18 (.slice A2 m2 c2) m2 (flat encP O2)) ∧ Below w2.heap.size w2 wr2 ∧ Hid (A2 = none → c2 = 0) ∧ Hid (∀ p ∈ O2, bitsOk p)) (fun _ u _ => (intOf u).toNat)
          case atStart => exact ⟨O ++ [x], A2, c2, m + 1, O.length + 1, rfl, by go_num, Lib.hid (by simp [hm.out]), by omega, by omega, by rw [← hm.out]; omega, Lib.hid HP.out.symm, Lib.hid hown3, Hb3.out, Lib.hid hA3, Hbo1⟩
          case round =>
            obtain ⟨O2, A2, c2, m2, f, rfl, rfl, hm2, hm20, hm2k, hm2f, hmf, hown2, hbel2, hA2, hOb2⟩ := hrel
            obtain ⟨cM, HcM⟩ : ∃ c, Hid (canMerge O2 = c) := ⟨_, Lib.hid rfl⟩
            go_upto_region 11 with fail
            go_cut [62] (fun v wx => v = .bool cM ∧ ∃ d os, wx = gw wr d os)
            case first =>
              by_cases h1 : m2 = 1
              · subst h1
                have hd : decide ((1 : Int) < 1) = false := by simp
                have hc : canMerge O2 = false := by unfold canMerge; rw [← hm2.out]; simp
                refine wp_region_gw (by kernel_rfl) (by kernel_rfl) ?_
                repeat (go_big_quiet_step (fail))
                refine wpQuiet_nil ?_
                intro dq osq
                go_wp2_with fail
                go_meet
                case rel => exact ⟨by rw [← HcM.out, hc], dq, osq, rfl⟩
              · obtain ⟨i1, hi1, hi1'⟩ : ∃ i1 : Nat, i1 + 1 = m2 ∧ (m2 : Int) - 1 = i1 := ⟨m2 - 1, by omega, by omega⟩
                obtain ⟨i2, hi2, hi2'⟩ : ∃ i2 : Nat, i2 + 2 = m2 ∧ (m2 : Int) - 2 = i2 := ⟨m2 - 2, by omega, by omega⟩
                have hi3 : i1 < m2 := by omega
                have hi4 : i2 < m2 := by omega
                obtain ⟨g, hAg, hgs, hmc, hget⟩ := own_get hown2.out hm2.out 0 (by omega)
                subst hAg
                have hd : decide ((1 : Int) < (m2 : Int)) = true := by simp; omega
                have h2 := hget i1 (by omega)
                have h3 := hget i2 (by omega)
                have hlast : O2.getD i1 pfx0 = lastP O2 := by unfold lastP; rw [← hm2.out, ← hi1]; rfl
                have hlast2 : O2.getD i2 pfx0 = last2P O2 := by unfold last2P; rw [← hm2.out, ← hi2]; rfl
                rw [hlast] at h2
                rw [hlast2] at h3
                have hl1 : ∀ d os, rowAt (gw wr d os) g (i1 * 18) 18 = some (encP (lastP O2)) := fun d os => by rw [rowAt_gw _ _ _ _ _ _ hgs, h2]
                have hl2 : ∀ d os, rowAt (gw wr d os) g (i2 * 18) 18 = some (encP (last2P O2)) := fun d os => by rw [rowAt_gw _ _ _ _ _ _ hgs, h3]
                have hcell : ∀ d os, (gw wr d os).cell? ⟨g, i1 * 18 + 17, none⟩ = some (.int .i64 (lastP O2).bits) := fun d os => (rowAt_some (hl1 d os)).2 17 _ (encP_last _)
                have hmem := hOb2.out _ (lastP_mem O2 (by rw [← hm2.out]; omega))
                have hcm : canMerge O2 = (decide (0 < (lastP O2).bits) && decide (last2P O2 = halfP (lastP O2))) := by unfold canMerge; rw [← hm2.out, show decide (1 < m2) = true by simp; omega]; simp
                have ch : 0 < (lastP O2).bits → ∀ d os, Calls Tryd.prog 30 #[.agg (encP (lastP O2)).toArray] (gw wr d os) fun e w' => e = .returned (.agg (encP (halfP (lastP O2))).toArray) ∧ Below (gw wr d os).heap.size (gw wr d os) w' := fun hb d os =>
                  half_any (lastP O2) ((lastP O2).bits - 1).toNat _ (by omega) (by have := hmem.2; omega)
                clear h2 h3 hlast hlast2 hget hmem hi1 hi2
                generalize halfP (lastP O2) = H at ch hcm
                generalize lastP O2 = L at hl1 hcell ch hcm
                generalize last2P O2 = L2 at hl2 hcm
                have Hcm := Lib.hid hcm
                clear hcm
                by_cases hb : 0 < L.bits
                · have hdb : decide (0 < L.bits) = true := by simpa using hb
                  have chh := ch hb
                  clear ch
                  refine wp_region_gw (by kernel_rfl) (by kernel_rfl) ?_
                  repeat (go_big_quiet_step ((go_at_call 30; exact Calls.in_gw (chh _ _))))
                  refine wpQuiet_nil ?_
                  intro dq osq
                  go_wp2_with fail
                  go_meet
                  case rel => exact ⟨by rw [← HcM.out, Hcm.out, hdb]; simp, dq, osq, rfl⟩
                · have hdb : decide (0 < L.bits) = false := by simpa using hb
                  clear ch
                  refine wp_region_gw (by kernel_rfl) (by kernel_rfl) ?_
                  repeat (go_big_quiet_step (fail))
                  refine wpQuiet_nil ?_
                  intro dq osq
                  go_wp2_with fail
                  go_meet
                  case rel => exact ⟨by rw [← HcM.out, Hcm.out, hdb]; simp, dq, osq, rfl⟩
            case rest =>
              obtain ⟨rfl, d2, os2, rfl⟩ := hcut
              have hbG : Below wr.heap.size wr (gw wr d2 os2) := by
                repeat (first | with_reducible exact Below.refl _ _ | with_reducible assumption | with_reducible refine below_gw' ?_ (by simp [gw_size] <;> omega) _ _ | with_reducible refine Below.alloc ?_ (by simp [gw_size] <;> omega) _ | with_reducible refine Below.drew ?_ | with_reducible refine below_setCells ?_ _ _ _ (by simp [gw_size] <;> omega))
              have hglw := Lib.hid (hgl2.out.below hbel2)
              have Fo := Lib.hid (own_keep hown2.out hbG)
              have Fr := hown2
              have hbt := hbel2.trans (hbG.mono hbel2.size)
              have Hbt := Lib.hid hbt
              have Hglr := Lib.hid (hgl2.out.below hbt)
              clear hbt hbG
              cases cM
              · have hO : pushP O x = O2 := by
                  rw [← hmf.out]
                  cases f with
                  | zero => omega
                  | succ f => unfold mergeF; rw [HcM.out]; simp
                have HO := Lib.hid (Hfold.out.trans hO)
                clear hO
                go_wp2
                go_roundw
                case rel => exact ⟨k + 1, A2, c2, m2, by omega, by go_num, rfl, by rw [HO.out]; exact hm2, by omega, by rw [HO.out]; exact Fo, Hbt.out, hA2, by rw [HO.out]; exact hOb2⟩
                case measure => simp [intOf]; omega
              · have hcm := HcM.out
                have hlen := mergeStep_len O2 hcm
                have hbo2 := bitsOk_step O2 hOb2.out hcm
                have hmf2 : mergeF (f - 1) (mergeStep O2) = pushP O x := by
                  rw [← hmf.out]
                  cases f with
                  | zero => omega
                  | succ f => rw [show f + 1 - 1 = f by omega]; conv => rhs; unfold mergeF
                              rw [hcm]; simp
                have hcm2 := hcm
                unfold canMerge at hcm2
                simp only [Bool.and_eq_true, decide_eq_true_eq] at hcm2
                obtain ⟨⟨hc1, hc2⟩, _⟩ := hcm2
                have hc3 := (hOb2.out _ (lastP_mem O2 (by omega))).2
                rw [← hm2.out] at hc1
                obtain ⟨i1, hi1, hi1'⟩ : ∃ i1 : Nat, i1 + 1 = m2 ∧ (m2 : Int) - 1 = i1 := ⟨m2 - 1, by omega, by omega⟩
                obtain ⟨i2, hi2, hi2'⟩ : ∃ i2 : Nat, i2 + 2 = m2 ∧ (m2 : Int) - 2 = i2 := ⟨m2 - 2, by omega, by omega⟩
                have hi3 : i1 < m2 := by omega
                have hi4 : i2 < m2 := by omega
                obtain ⟨g, hAg, hgs2, hmc, hget⟩ := own_get Fr.out hm2.out 0 (by omega)
                have Ft := own_take (enc := encP) encP_length Fr.out hm2.out i2 (by omega) (by rw [hAg]; simp)
                subst hAg
                have h2 := hget i1 (by omega)
                have hlast : O2.getD i1 pfx0 = lastP O2 := by unfold lastP; rw [← hm2.out, ← hi1]; rfl
                rw [hlast] at h2
                have hl1 : ∀ d, rowAt (gw wr d os2) g (i1 * 18) 18 = some (encP (lastP O2)) := fun d => by rw [rowAt_gw _ _ _ _ _ _ hgs2, h2]
                have hstep : mergeStep O2 = O2.take i2 ++ [upP (lastP O2)] := by unfold mergeStep; rw [← hm2.out, ← hi2]; rfl
                have cu : ∀ d, Calls Tryd.prog 36 #[.agg (encP (lastP O2)).toArray] (gw wr d os2) fun e w' => e = .returned (.agg (encP (upP (lastP O2))).toArray) ∧ ∃ d' os', w' = gw wr d' os' := fun d =>
                  Calls.next_gw (up_any (lastP O2) _ (hglw.out.gw d os2) (by omega) hc3)
                rw [← hm2.out] at hlen
                have hw1 : IntKind.i64.wrap (i1 : Int) = i1 := by rw [IntKind.wrap_i64]; omega
                have hw2 : IntKind.i64.wrap (i2 : Int) = i2 := by rw [IntKind.wrap_i64]; omega
                have hi5 : i2 ≤ c2 := by omega
                clear h2 hlast hget hc1 hc2 hc3 hcm Fo Fr
                generalize upP (lastP O2) = U at cu hstep
                have hl3 : i2 = (O2.take i2).length := by rw [List.length_take, ← hm2.out]; omega
                have fw : ∀ d os, Below wr.heap.size wr ((gw wr d os).alloc (.cells (encP U).toArray 35)) := fun d os => by
                  repeat (first | with_reducible exact Below.refl _ _ | with_reducible assumption | with_reducible refine below_gw' ?_ (by simp [gw_size] <;> omega) _ _ | with_reducible refine Below.alloc ?_ (by simp [gw_size] <;> omega) _ | with_reducible refine Below.drew ?_ | with_reducible refine below_setCells ?_ _ _ _ (by simp [gw_size] <;> omega))
                have fo : ∀ d os, ((gw wr d os).alloc (.cells (encP U).toArray 35)).ownsRow w2.heap.size 35 18 (.slice (some ⟨g, 0, none⟩) i2 c2) i2 (flat encP (O2.take i2)) := fun d os => own_keep Ft (fw d os)
                have fb : ∀ d os, Below w2.heap.size w2 ((gw wr d os).alloc (.cells (encP U).toArray 35)) := fun d os => hbel2.trans ((fw d os).mono hbel2.size)
                clear fw
                have hmf2' := hmf2
                rw [hstep] at hmf2' hlen hbo2
                have Hl3 := Lib.hid hl3
                have FO := Lib.hid fo
                have FB := Lib.hid fb
                have HMF := Lib.hid hmf2'
                have HBO := Lib.hid hbo2
                have HLEN := Lib.hid hlen
                clear hl3 fo fb hmf2 hmf2' hbo2 hlen hstep Ft
                go_upto_region 13 with fail
                refine wp_region_any (by kernel_rfl) ?_
                change wpAny _ _ _ _ _ _ _ (World.drew _)
                refine wpAny_take (i := 0) (v := ?_) rfl (by kernel_rfl) (by kernel_rfl) (by kernel_rfl) (fun _ _ _ h => h) (Or.inl ⟨by rfl, ?_⟩) ?_
                rotate_left
                focus (intro w; go_simp; try with_reducible rfl)
                refine wpAny_take (i := 1) (v := ?_) rfl (by kernel_rfl) (by kernel_rfl) (by kernel_rfl) (fun _ _ _ h => h) (Or.inl ⟨by rfl, ?_⟩) ?_
                rotate_left
                focus (intro w; go_simp; try with_reducible rfl)
                refine wpAny_take (i := 2) (v := ?_) rfl (by kernel_rfl) (by kernel_rfl) (by kernel_rfl) (fun _ _ _ h => h) (Or.inl ⟨by rfl, ?_⟩) ?_
                rotate_left
                focus (intro w; go_simp; try with_reducible rfl)
                refine wpAny_take (i := 3) (v := ?_) rfl (by kernel_rfl) (by kernel_rfl) (by kernel_rfl) (fun _ _ _ h => h) (Or.inl ⟨by rfl, ?_⟩) ?_
                rotate_left
                focus (intro w; go_simp; try with_reducible rfl)
                refine wpAny_take (i := 4) (v := ?_) rfl (by kernel_rfl) (by kernel_rfl) (by kernel_rfl) (fun _ _ _ h => h) (Or.inl ⟨by rfl, ?_⟩) ?_
                rotate_left
                focus (intro w; go_simp; try with_reducible rfl)
                refine wpAny_take (i := 5) (v := ?_) rfl (by kernel_rfl) (by kernel_rfl) (by kernel_rfl) (fun _ _ _ h => h) (Or.inl ⟨by rfl, ?_⟩) ?_
                rotate_left
                focus (intro w; go_simp; try with_reducible rfl)
                refine wpAny_take (i := 6) (v := ?_) rfl (by kernel_rfl) (by kernel_rfl) (by kernel_rfl) (fun _ _ _ h => h) (Or.inl ⟨by rfl, ?_⟩) ?_
                rotate_left
                focus (intro w; go_simp; try with_reducible rfl)
                refine wpAny_take (i := 7) (v := ?_) rfl (by kernel_rfl) (by kernel_rfl) (by kernel_rfl) (fun _ _ _ h => h) (Or.inl ⟨by rfl, ?_⟩) ?_
                rotate_left
                focus (intro w; go_simp; try with_reducible rfl)
                refine wpAny_tail 8 _ (by rfl) (by kernel_rfl) ?_
                simp only [List.drop_succ_cons, List.drop_zero]
                go_wp2_with (first
                  | (go_at_call 36; refine (cu _).mono ?_; rintro e w5 ⟨rfl, d5, os5, rfl⟩)
                  | (at_builtin; refine appP rfl (.tmp 68) (.tmp 75) rfl w2.heap.size (O2.take i2) [U] i2 1 (some ⟨g, 0, none⟩) c2 rfl Hl3.out (FO.out _ _) _ _ _ rfl rfl (one_new (gw wr d5 os5) _ U (wr.heap.size + os5.size) (by rw [gw_size])) (fun h => by cases h) (by omega) (FB.out _ _).size ?_; rintro A3 c3 w6 hown6 hb6 hA6; have hb7 := (FB.out d5 os5).trans hb6))
                go_roundw
                case rel => exact ⟨O2.take i2 ++ [U], A3, c3, i2 + 1, f - 1, rfl, by go_num, Lib.hid (by simp [← Hl3.out]), by omega, by omega, by omega, HMF, Lib.hid hown6, hb7, Lib.hid hA6, HBO⟩
                case measure => simp [intOf]; omega
        · have hP : pushP O x = O := by rw [Hpush.out, HcB.out]; simp
          rw [hP] at Hfold
          have hbA : Below wr.heap.size wr (gw (wr.alloc (.cells (encP x).toArray 35)) d os) := by
            repeat (first | with_reducible exact Below.refl _ _ | with_reducible assumption | with_reducible refine below_gw' ?_ (by simp [gw_size] <;> omega) _ _ | with_reducible refine Below.alloc ?_ (by simp [gw_size] <;> omega) _ | with_reducible refine Below.drew ?_ | with_reducible refine below_setCells ?_ _ _ _ (by simp [gw_size] <;> omega))
          have Hbg := Lib.hid (hbel.trans (hbA.mono hbel.size))
          have Fo := Lib.hid (own_keep hown.out hbA)
          clear hbA hbW
          go_wp2
          go_roundw
          case rel => exact ⟨k + 1, A, cc, m, by omega, by go_num, rfl, by rw [Hfold.out]; exact hm, by omega, by rw [Hfold.out]; exact Fo, Hbg.out, hA, by rw [Hfold.out]; exact hOb⟩
          case measure => simp [intOf]; omega
    · obtain rfl : k = N := by omega
      have e : S.take k = S := List.take_of_length_le (by have := HS.out; omega)
      rw [e] at hm hown
      go_wp2
      go_ret
      exact ⟨A, m, cc, rfl, hm.out, SlR.of_own encP_length (by omega) hm.out.symm hown.out, hb12.trans (hbel.mono hb12.size), hA.out, own_cap hown.out hm.out⟩

end Go.Proofs.YtfdebdbmdbmbbaaDoor
