/- Within, the statements' helper form: by contract. -/
import Derived.Test.YtfdebdbmdbmbbaaDoorSetC
set_option linter.unusedSimpArgs false
set_option linter.unusedVariables false
namespace Go.Proofs.YtfdebdbmdbmbbaaDoor
open Go.RowKit

set_option maxRecDepth 100000 in
set_option maxHeartbeats 1000000 in
/-- Within, where the meet is a set. -/
theorem within_any (xs ys : List Pfx) (A B : Option Addr) (c d n m : Nat) (w : World) (hn : n = xs.length) (hm : m = ys.length) (hgl : Glob w) (hx : Canon xs) (hy : Canon ys) (hl : n ≤ 300) (hl2 : m ≤ 300) (hs : SlP w w.heap.size A xs) (hs2 : SlP w w.heap.size B ys) (hA : A = none → c = 0) (hB : B = none → d = 0) (hr : (meetR xs ys).length ≤ 300) :
    Calls Tryd.prog 12 #[.slice A n c, .slice B m d] w fun e w' => e = .returned (.tuple #[.bool (decide (meetR xs ys = xs)), .int .i64 0]) ∧ Below w.heap.size w w' := by
  have cm := meet_any hn hm hgl hx hy hl hl2 hs hs2 hA hB
  have Hx := Lib.hid (And.intro hn hs)
  have Hr := Lib.hid hr
  clear hn hm hx hy hs hs2 hA hB hr
  go_enter Tryd.func12, Tryd.ntmps12
  go_wp2_with fail
  refine cm.mono ?_
  clear cm
  rintro e w2 (⟨h1, _⟩ | ⟨_, A', m', c', rfl, h3, h4, h5, _⟩)
  · have := Hr.out; exact absurd h1 (by show ¬ 300 < (meetR xs ys).length; omega)
  · have hsx := (Hx.out.2.below h5 (Nat.le_refl _)).more h5.size
    have hnx := Hx.out.1
    have ce := Calls.to_gw (equal_any (meetR xs ys) xs A' A c' c w2 h4 hsx (by have := Hr.out; omega) (by omega))
    rw [show (meetR xs ys).length = m' from h3.symm, ← hnx] at ce
    have Hb := Lib.hid h5
    obtain ⟨r, hrr⟩ : ∃ r, r = decide (meetR xs ys = xs) := ⟨_, rfl⟩
    rw [← hrr] at ce
    have Hrr := Lib.hid hrr
    have Hce := Lib.hid ce
    clear h3 h4 h5 hsx hnx ce hrr
    go_wp2_with fail
    refine Hce.out.mono ?_
    rintro e w4 ⟨rfl, d4, os4, rfl⟩
    go_wp2
    go_ret2
    refine ⟨?_, below_gw' Hb.out Hb.out.size d4 os4⟩
    show Ending.returned (.tuple #[.bool r, .int .i64 0]) = _
    rw [Hrr.out]

set_option maxRecDepth 100000 in
set_option maxHeartbeats 1000000 in
/-- form of a row that has none. -/
theorem formBad_any (xs : List Pfx) (A : Option Addr) (n c : Nat) (w : World) (hn : n = xs.length) (hc : n ≤ c) (hgl : Glob w) (hs : SlP w w.heap.size A xs) (hx : ((xs.take 12).any fun p => !okP p) = true) :
    Calls Tryd.prog 6 #[.slice A n c] w fun e w' => e = .returned (.tuple #[.slice none 0 0, .bool false]) ∧ Below w.heap.size w w' := by
  have hk : (min (n : Int) 12).toNat = (xs.take 12).length := by rw [List.length_take]; omega
  have co := oneBad_any (xs.take 12) A c (min (n : Int) 12).toNat w hk hgl hx (by omega) (hs.take 12)
  clear hn hs hx hk
  go_enter Tryd.func6, Tryd.ntmps6
  go_wp2_with fail
  (with_reducible refine (Calls.to_gw co).mono ?_)
  rintro e w2 ⟨rfl, d, os, rfl⟩
  go_wp2
  go_ret2
  (refine ⟨rfl, ?_⟩; repeat (first | with_reducible exact Below.refl _ _ | with_reducible assumption | with_reducible refine below_gw' ?_ (by simp [gw_size] <;> omega) _ _ | with_reducible refine Below.alloc ?_ (by simp [gw_size] <;> omega) _ | with_reducible refine Below.drew ?_ | with_reducible refine below_setCells ?_ _ _ _ (by simp [gw_size] <;> omega)))

set_option maxRecDepth 100000 in
set_option maxHeartbeats 1000000 in
/-- form of a row that has one. -/
theorem formOk_any (xs : List Pfx) (A : Option Addr) (n c : Nat) (w : World) (hn : n = xs.length) (hc : n ≤ c) (hgl : Glob w) (hs : SlP w w.heap.size A xs) (hA : A = none → c = 0) (hx : ((xs.take 12).any fun p => !okP p) = false) :
    Calls Tryd.prog 6 #[.slice A n c] w fun e w' => ∃ A' m c', e = .returned (.tuple #[.slice A' m c', .bool true]) ∧ m = (oneL (xs.take 12)).length ∧ SlP w' w'.heap.size A' (oneL (xs.take 12)) ∧ Below w.heap.size w w' ∧ (A' = none → c' = 0) ∧ m ≤ c' := by
  have hk : (min (n : Int) 12).toNat = (xs.take 12).length := by rw [List.length_take]; omega
  have co := oneOk_any (xs.take 12) A c (min (n : Int) 12).toNat w hk hgl hx (by omega) (hs.take 12) hA
  clear hn hs hx hk hA
  go_enter Tryd.func6, Tryd.ntmps6
  go_wp2_with fail
  (with_reducible refine co.mono ?_)
  clear co
  rintro e w2 ⟨A', m, c', rfl, hp⟩
  have Hp := Lib.hid hp
  clear hp
  go_wp2
  go_ret2
  exact ⟨A', m, c', rfl, Hp.out⟩

end Go.Proofs.YtfdebdbmdbmbbaaDoor
