/- cover.Check, One, both, Union, Meet, Minus, Within: by contract. -/
import Derived.Test.YtfdebdbmdbmbbaaDoorIterN
set_option linter.unusedSimpArgs false
set_option linter.unusedVariables false
namespace Go.Proofs.YtfdebdbmdbmbbaaDoor
open Go.RowKit Go.Shelf

theorem collected_any (gf : Nat) (lb : Array Value) (eg : ∀ args w, (callFunc gf args).run Tryd.prog w = .ok (.enter gf args) w) (T : List Pfx) (Sp : List Pfx → Prop) (hT : T.length ≤ 1000000) (w : World)
    (hseq : SeqStopsK Fence.wide 2 Tryd.prog gf lb seqP (KpB w.heap.size w.heap.size) (fun zs => zs = T) Sp T.length (w.alloc (.cells #[.slice none 0 0] 22))) :
    Calls Tryd.prog 27 #[.func (.func gf) #[] lb] w fun e W' => ∃ A c, e = .returned (.slice A T.length c) ∧ SlP W' W'.heap.size A T ∧ (A = none → c = 0) ∧ Below w.heap.size w W' :=
  (callsIn_wide (n := 3)).1 ((collected_in Fence.wide 3 trivial rfl (by omega) gf lb trivial eg _ _ T.length w.heap.size hT w hseq (Nat.le_refl _)).mono fun e W' ⟨xs, A, c, h1, _, h2, h3, h4, h5⟩ => by
    subst h1
    exact ⟨A, c, h2, SlR.of_own encP_length (by omega) rfl h3, h4, h5⟩)

/-- cover.one at one row. -/
theorem one1_any (xs : List Pfx) (A : Option Addr) (n c Br cr : Nat) (w : World) (hn : n = xs.length) (hgl : Glob w) (hc : w.cell? ⟨Br, 0, none⟩ = some (.slice A n c)) (hs : SlP w w.heap.size A xs) (hA : A = none → c = 0) (hl : n ≤ 500000) (hbo : ∀ p ∈ xs, bitsOk p) :
    Calls Tryd.prog 24 #[.slice (some ⟨Br, 0, none⟩) 1 cr] w fun e w' => ∃ A' m c', e = .returned (.slice A' m c') ∧ m = (oneL xs).length ∧ SlP w' w'.heap.size A' (oneL xs) ∧ Below w.heap.size w w' ∧ (A' = none → c' = 0) ∧ m ≤ c' := by
  subst hn
  have h := one_any [⟨A, c, xs⟩] Br cr 1 xs.length w hgl (cell_in hc) rfl (by simp [catL]) hl (by omega)
    (fun i r hr => by
      match i with
      | 0 => simp at hr; subst hr; exact hc
      | i + 1 => simp at hr)
    (fun r hr => by simp at hr; subst hr; exact ⟨hs, hA⟩) (by simpa [catL] using hbo)
  rw [show catL [⟨A, c, xs⟩] = xs by simp [catL]] at h
  exact h
/-- .. and at two. -/
theorem one2_any (xs ys : List Pfx) (A B : Option Addr) (n m c d Br cr : Nat) (w : World) (hn : n = xs.length) (hm : m = ys.length) (hgl : Glob w) (hc : w.cell? ⟨Br, 0, none⟩ = some (.slice A n c)) (hd : w.cell? ⟨Br, 1, none⟩ = some (.slice B m d)) (hs : SlP w w.heap.size A xs) (ht : SlP w w.heap.size B ys) (hA : A = none → c = 0) (hB : B = none → d = 0) (hl : n + m ≤ 500000) (hbo : ∀ p ∈ xs ++ ys, bitsOk p) :
    Calls Tryd.prog 24 #[.slice (some ⟨Br, 0, none⟩) 2 cr] w fun e w' => ∃ A' m c', e = .returned (.slice A' m c') ∧ m = (oneL (xs ++ ys)).length ∧ SlP w' w'.heap.size A' (oneL (xs ++ ys)) ∧ Below w.heap.size w w' ∧ (A' = none → c' = 0) ∧ m ≤ c' := by
  subst hn; subst hm
  have h := one_any [⟨A, c, xs⟩, ⟨B, d, ys⟩] Br cr 2 (xs ++ ys).length w hgl (cell_in hc) rfl (by simp [catL]) (by simpa using hl) (by omega)
    (fun i r hr => by
      match i with
      | 0 => simp at hr; subst hr; exact hc
      | 1 => simp at hr; subst hr; exact hd
      | i + 2 => simp at hr)
    (fun r hr => by
      simp at hr
      rcases hr with hr | hr
      · subst hr; exact ⟨hs, hA⟩
      · subst hr; exact ⟨ht, hB⟩) (by simpa [catL] using hbo)
  rw [show catL [⟨A, c, xs⟩, ⟨B, d, ys⟩] = xs ++ ys by simp [catL]] at h
  exact h

theorem Canon.bo {xs : List Pfx} (h : Canon xs) : ∀ p ∈ xs, bitsOk p := fun p hp => bitsOk_of_ok p (h.ok p hp)
theorem Canon.noWrong {xs : List Pfx} (h : Canon xs) : (xs.any fun p => !okP p) = false := by
  rw [List.any_eq_false]
  intro p hp
  simp [h.ok p hp]

set_option maxRecDepth 100000 in
set_option maxHeartbeats 1000000 in
/-- Check at a row in the one form. -/
theorem checkC_any (xs : List Pfx) (A : Option Addr) (c n : Nat) (w : World) (hn : n = xs.length) (hgl : Glob w) (hx : Canon xs) (hl : n ≤ 300) (hs : SlP w w.heap.size A xs) (hA : A = none → c = 0) :
    Calls Tryd.prog 9 #[.slice A n c] w fun e w' => e = .returned (.int .i64 0) ∧ Below w.heap.size w w' := by
  have hgt : decide ((300 : Int) < (n : Int)) = false := by simp; omega
  have cw := Calls.to_gw (wrong_any xs A c w hgl hs (by omega))
  rw [hx.noWrong, ← hn] at cw
  have Hn := Lib.hid hn
  clear hn
  go_enter Tryd.func9, Tryd.ntmps9
  go_wp2_with fail
  refine cw.mono ?_
  clear cw
  rintro e w1 ⟨rfl, d, os, rfl⟩
  go_wp2_with fail
  have hb1 : Below w.heap.size w ((gw w d os).alloc (.cells #[.slice A n c] 22)) := (below_gw w d os).alloc (by simp [gw_size]) _
  (with_reducible refine (one1_any xs A n c (w.heap.size + os.size) 1 _ Hn.out (hgl.below hb1) (by simp [go_sem]) (hs.below hb1 (Nat.le_refl _) |>.more hb1.size) hA (by omega) hx.bo).mono ?_)
  rintro e w2 ⟨A', m, c', rfl, hm, hs2, hb2, _⟩
  rw [one_id hx] at hm hs2
  have hb3 := hb1.trans (hb2.mono hb1.size)
  have ce := Calls.to_gw (equal_any xs xs A' A c' c w2 hs2 ((hs.below hb3 (Nat.le_refl _)).more hb3.size) (by have := Hn.out; omega) (by have := Hn.out; omega))
  obtain rfl : n = m := Hn.out.trans hm.symm
  rw [← hm] at ce
  have hd : decide (xs = xs) = true := by simp
  rw [hd] at ce
  have Hb3 := Lib.hid hb3
  have Hce := Lib.hid ce
  clear hd hb1 hb2 hs2 hm hs ce hb3
  go_wp2_with fail
  refine Hce.out.mono ?_
  rintro e w4 ⟨rfl, d4, os4, rfl⟩
  go_wp2
  go_ret
  exact ⟨rfl, below_gw' Hb3.out Hb3.out.size d4 os4⟩

set_option maxRecDepth 100000 in
set_option maxHeartbeats 1000000 in
/-- One at a row that may not be. -/
theorem oneBad_any (xs : List Pfx) (A : Option Addr) (c n : Nat) (w : World) (hn : n = xs.length) (hgl : Glob w) (hx : (xs.any fun p => !okP p) = true) (hl : n ≤ 64) (hs : SlP w w.heap.size A xs) :
    Calls Tryd.prog 13 #[.slice A n c] w fun e w' => e = .returned (.tuple #[.slice none 0 0, .int .i64 151]) ∧ Below w.heap.size w w' := by
  have hgt : decide ((64 : Int) < (n : Int)) = false := by simp; omega
  have cw := Calls.to_gw (wrong_any xs A c w hgl hs (by omega))
  rw [hx, ← hn] at cw
  clear hn hx hs
  go_enter Tryd.func13, Tryd.ntmps13
  go_wp2_with fail
  refine cw.mono ?_
  rintro e w1 ⟨rfl, d, os, rfl⟩
  go_wp2
  go_ret2
  (refine ⟨rfl, ?_⟩; repeat (first | with_reducible exact Below.refl _ _ | with_reducible assumption | with_reducible refine below_gw' ?_ (by simp [gw_size] <;> omega) _ _ | with_reducible refine Below.alloc ?_ (by simp [gw_size] <;> omega) _ | with_reducible refine Below.drew ?_ | with_reducible refine below_setCells ?_ _ _ _ (by simp [gw_size] <;> omega)))

set_option maxRecDepth 100000 in
set_option maxHeartbeats 1000000 in
/-- One at a row that may be. -/
theorem oneOk_any (xs : List Pfx) (A : Option Addr) (c n : Nat) (w : World) (hn : n = xs.length) (hgl : Glob w) (hx : (xs.any fun p => !okP p) = false) (hl : n ≤ 64) (hs : SlP w w.heap.size A xs) (hA : A = none → c = 0) :
    Calls Tryd.prog 13 #[.slice A n c] w fun e w' => ∃ A' m c', e = .returned (.tuple #[.slice A' m c', .int .i64 0]) ∧ m = (oneL xs).length ∧ SlP w' w'.heap.size A' (oneL xs) ∧ Below w.heap.size w w' ∧ (A' = none → c' = 0) ∧ m ≤ c' := by
  have hgt : decide ((64 : Int) < (n : Int)) = false := by simp; omega
  have hbo : ∀ p ∈ xs, bitsOk p := fun p hp => bitsOk_of_ok p (by
    have := List.any_eq_false.1 hx p hp
    simpa using this)
  have cw := Calls.to_gw (wrong_any xs A c w hgl hs (by omega))
  rw [hx, ← hn] at cw
  have Hn := Lib.hid hn
  have Hbo := Lib.hid hbo
  clear hn hx hbo
  go_enter Tryd.func13, Tryd.ntmps13
  go_wp2_with fail
  refine cw.mono ?_
  clear cw
  rintro e w1 ⟨rfl, d, os, rfl⟩
  go_wp2_with fail
  have hb1 : Below w.heap.size w ((gw w d os).alloc (.cells #[.slice A n c] 22)) := (below_gw w d os).alloc (by simp [gw_size]) _
  (with_reducible refine (one1_any xs A n c (w.heap.size + os.size) 1 _ Hn.out (hgl.below hb1) (by simp [go_sem]) (hs.below hb1 (Nat.le_refl _) |>.more hb1.size) hA (by omega) Hbo.out).mono ?_)
  rintro e w2 ⟨A', m, c', rfl, hm, hs2, hb2, hA2⟩
  have Hp := Lib.hid (And.intro hm (And.intro hs2 (And.intro (hb1.trans (hb2.mono hb1.size)) hA2)))
  clear hm hs2 hb1 hb2 hA2 hs hA
  go_wp2
  go_ret2
  exact ⟨A', m, c', rfl, Hp.out⟩


/-- What both does with two sets: 'do' hands back an iterator that tells T. -/
def Does (gd : Nat) (lbd : Array Value) (T : List Pfx) (w : World) : Prop :=
  (∀ args w, (callFunc gd args).run Tryd.prog w = .ok (.enter gd args) w) ∧
  ∀ W, Below w.heap.size w W → Calls Tryd.prog gd lbd W fun e W' => ∃ gf lb, e = .returned (.func (.func gf) #[] lb) ∧ Below W.heap.size W W' ∧ (∀ args w, (callFunc gf args).run Tryd.prog w = .ok (.enter gf args) w) ∧
    SeqStopsK Fence.wide 2 Tryd.prog gf lb seqP (KpB W'.heap.size W'.heap.size) (fun zs => zs = T) (fun pre => pre <+: T) T.length (W'.alloc (.cells #[.slice none 0 0] 22))

/-- The answer of both. -/
def bothPost (T : List Pfx) (w : World) (e : Ending) (w' : World) : Prop :=
  (300 < (oneL T).length ∧ e = .returned (.tuple #[.slice none 0 0, .int .i64 6]) ∧ Below w.heap.size w w') ∨
  ((oneL T).length ≤ 300 ∧ ∃ A m c, e = .returned (.tuple #[.slice A m c, .int .i64 0]) ∧ m = (oneL T).length ∧ SlP w' w'.heap.size A (oneL T) ∧ Below w.heap.size w w' ∧ (A = none → c = 0))

set_option maxRecDepth 100000 in
set_option maxHeartbeats 2000000 in
theorem both_any (xs ys : List Pfx) (A B : Option Addr) (c d n m : Nat) (gd : Nat) (lbd : Array Value) (T : List Pfx) (w : World) (hn : n = xs.length) (hm : m = ys.length) (hgl : Glob w) (hx : Canon xs) (hy : Canon ys) (hl : n ≤ 300) (hl2 : m ≤ 300) (hs : SlP w w.heap.size A xs) (hs2 : SlP w w.heap.size B ys) (hA : A = none → c = 0) (hB : B = none → d = 0)
    (hT : T.length ≤ 500000) (hTok : ∀ p ∈ T, okP p = true) (hdo : Does gd lbd T w) :
    Calls Tryd.prog 16 #[.slice A n c, .slice B m d, .func (.func gd) #[] lbd] w (bothPost T w) := by
  have hix0 : ∀ W, (Instr.index 50 (.agg #[.slice A n c, .slice B m d]) (.int .i64 0)).run Tryd.prog W = .ok (.slice A n c) W := fun _ => by kernel_rfl
  have hix1 : ∀ W, (Instr.index 50 (.agg #[.slice A n c, .slice B m d]) (.int .i64 1)).run Tryd.prog W = .ok (.slice B m d) W := fun _ => by kernel_rfl
  have c1 := Calls.to_gw (checkC_any xs A c n w hn hgl hx hl hs hA)
  have c2 := fun d1 os1 => Calls.next_gw (checkC_any ys B d m (gw w d1 os1) hm (hgl.gw d1 os1) hy hl2 (hs2.gw (Nat.le_refl _) d1 os1 |>.more (by rw [gw_size]; omega)) hB)
  obtain ⟨egd, hdo⟩ := hdo
  have Hdo := Lib.hid hdo
  have Hgl := Lib.hid hgl
  clear hn hm hx hy hs hs2 hdo hgl
  go_enter Tryd.func16, Tryd.ntmps16
  go_wp2
  go_loopw [15] (fun i wr => (i = .int .i64 0 ∧ wr = w) ∨ (i = .int .i64 1 ∧ ∃ d os, wr = gw w d os) ∨ (i = .int .i64 2 ∧ ∃ d os, wr = gw w d os)) (fun i _ => 2 - (intOf i).toNat)
  case atStart => exact .inl ⟨rfl, rfl⟩
  case round =>
    rcases hrel with ⟨rfl, rfl⟩ | ⟨rfl, d1, os1, rfl⟩ | ⟨rfl, d1, os1, rfl⟩
    · go_wp2_with fail
      refine c1.mono ?_
      rintro e w' ⟨rfl, d1, os1, rfl⟩
      go_wp2
      go_roundw
      case rel => exact .inr (.inl ⟨rfl, _, _, rfl⟩)
      case measure => simp [intOf]
    · go_wp2_with fail
      refine (c2 _ _).mono ?_
      rintro e w' ⟨rfl, d2, os2, rfl⟩
      go_wp2
      go_roundw
      case rel => exact .inr (.inr ⟨rfl, _, _, rfl⟩)
      case measure => simp [intOf]
    · clear hix0 hix1 c1 c2
      go_wp2_with fail
      refine (Hdo.out _ (below_gw _ d1 os1)).mono ?_
      rintro e w2 ⟨gf, lb, rfl, hb2, egf, hseq⟩
      have cc := collected_any gf lb egf T _ (by omega) w2 hseq
      clear hseq egf
      go_wp2_with fail
      refine cc.mono ?_
      clear cc
      rintro e w3 ⟨A3, c3, rfl, hs3, hA3, hb3⟩
      have hbw2 : Below w.heap.size w w2 := (below_gw w d1 os1).trans (hb2.mono (by rw [gw_size]; omega))
      have hbw3 : Below w.heap.size w w3 := hbw2.trans (hb3.mono hbw2.size)
      have hbw4 : Below w.heap.size w (w3.alloc (.cells #[.slice A3 T.length c3] 22)) := hbw3.alloc hbw3.size _
      have co := one1_any T A3 T.length c3 w3.heap.size 1 (w3.alloc (.cells #[.slice A3 T.length c3] 22)) rfl (Hgl.out.below hbw4) (by simp [go_sem]) ((hs3.alloc (Nat.le_refl _) _).more (by simp)) hA3 hT (fun p hp => bitsOk_of_ok p (hTok p hp))
      have Hb4 := Lib.hid hbw4
      clear hbw2 hbw3 hbw4 hb2 hb3 hs3 hA3 hTok
      go_wp2_with fail
      refine co.mono ?_
      clear co
      rintro e w5 ⟨A5, m5, c5, rfl, hm5, hs5, hb5, hA5, _⟩
      have Hb5 := Lib.hid (Hb4.out.trans (hb5.mono Hb4.out.size))
      have Hm5 := Lib.hid hm5
      have Hs5 := Lib.hid hs5
      have HA5 := Lib.hid hA5
      clear hb5 hs5 hm5 hA5
      by_cases h3 : 300 < m5
      · have hgt : decide ((300 : Int) < (m5 : Int)) = true := by simp; omega
        go_wp2
        go_ret2
        exact .inl ⟨by rw [← Hm5.out]; exact h3, rfl, Hb5.out⟩
      · have hgt : decide ((300 : Int) < (m5 : Int)) = false := by simp; omega
        go_wp2
        go_ret2
        exact .inr ⟨by rw [← Hm5.out]; omega, A5, m5, c5, rfl, Hm5.out, Hs5.out, Hb5.out, HA5.out⟩

end Go.Proofs.YtfdebdbmdbmbbaaDoor
