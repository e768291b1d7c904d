/- The walks of package prefix, the first ones: Width, clear, CheckAddr, Check. -/
import Derived.Test.YtfdebdbmdbmbbaaDoorTypes
import Derived.Outline
import Derived.WalkLawsBesides
import Derived.Laws.BitsAllLaws
set_option linter.unusedSimpArgs false
set_option linter.unusedVariables false
namespace Go.Proofs.YtfdebdbmdbmbbaaDoor
open Go.RowKit

/-- The package's table of widths lies as its initialiser lays it. -/
def Glob (w : World) : Prop := ∀ j, j < 7 → w.cell? ⟨0, j, none⟩ = some (.int .i64 (if j = 4 then 32 else if j = 6 then 128 else 0))
theorem Glob.lt {w : World} (h : Glob w) : 0 < w.heap.size := by
  have h0 := h 0 (by omega)
  unfold World.cell? at h0
  cases hb : w.heap[(0 : Nat)]? with
  | none => simp [hb] at h0
  | some ob => exact (Array.getElem?_eq_some_iff.1 hb).1
theorem Glob.below {w w' : World} (h : Glob w) (hb : Below w.heap.size w w') : Glob w' := fun j hj => (hb.cell h.lt).trans (h j hj)
theorem Glob.alloc {w : World} (h : Glob w) (o : Obj) : Glob (w.alloc o) := h.below ((Below.refl _ _).alloc (Nat.le_refl _) o)
theorem Glob.gw {w : World} (h : Glob w) (d : Nat) (os : Array Obj) : Glob (gw w d os) := h.below (below_gw w d os)
theorem Glob.drew {w : World} (h : Glob w) : Glob w.drew := h
theorem Glob.drewN {w : World} (h : Glob w) (n : Nat) : Glob (w.drewN n) := h

set_option maxRecDepth 100000 in
set_option maxHeartbeats 400000 in
theorem width_any (n : Int) (w : World) (hg : Glob w) :
    Calls Tryd.prog 39 #[.int .i64 n] w fun e w' => e = .returned (.int .i64 (width n)) ∧ w = w' := by
  by_cases h : 0 ≤ n ∧ n < 7
  · obtain ⟨n, rfl⟩ := Int.eq_ofNat_of_zero_le h.1
    have hc := hg n (by omega)
    have e : (if n = 4 then (32 : Int) else if n = 6 then 128 else 0) = width n := by
      unfold width
      by_cases h4 : n = 4
      · subst h4; rfl
      · by_cases h6 : n = 6
        · subst h6; rfl
        · rw [if_neg h4, if_neg h6, if_neg (by omega), if_neg (by omega)]
    rw [e] at hc
    generalize width n = r at hc ⊢
    clear e hg
    obtain ⟨h0, h1⟩ := h
    go_enter Tryd.func39, Tryd.ntmps39
    go_wp2
    go_ret
    exact ⟨rfl, rfl⟩
  · have e : width n = 0 := by unfold width; rw [if_neg (by omega), if_neg (by omega)]
    rw [e]
    by_cases h0 : n < 0
    · go_enter Tryd.func39, Tryd.ntmps39
      go_wp2
      go_ret
      exact ⟨rfl, rfl⟩
    · have h1 : 7 ≤ n := by omega
      go_enter Tryd.func39, Tryd.ntmps39
      go_wp2
      go_ret
      exact ⟨rfl, rfl⟩

theorem cellB (l : List UInt8) (hl : l.length = 16) (j : Nat) (hj : j < 16) (w : World) (t : TypeId) :
    (w.alloc (.cells (encB l).toArray t)).cell? ⟨w.heap.size, j, none⟩ = some (.int .u8 ((l[j]?.getD 0).toNat : Int)) := by
  have h : (encB l)[j]? = some (.int .u8 ((l[j]?.getD 0).toNat : Int)) := by
    simp [encB, u8v, List.getElem?_eq_getElem (show j < l.length by omega)]
  simp [h]

theorem u8_bit (x j : Nat) (hx : x < 256) : (bits BinOp.and IntKind.u8 ((x : Int) / 2 ^ j) 1 == 1) = (x / 2 ^ j % 2 == 1) := by
  have h : ((x : Int) / 2 ^ j) = ((x / 2 ^ j : Nat) : Int) := by simp
  have hlt : x / 2 ^ j < 256 := Nat.lt_of_le_of_lt (Nat.div_le_self _ _) hx
  rw [h]
  have h2 : bits BinOp.and IntKind.u8 ((x / 2 ^ j : Nat) : Int) 1 = ((x / 2 ^ j % 2 : Nat) : Int) := by
    have := u8_and_nat (x / 2 ^ j) 1 hlt (by omega)
    rw [nat_mask1] at this
    exact this
  rw [h2]
  generalize x / 2 ^ j % 2 = y
  rw [Bool.eq_iff_iff]
  simp
  omega

theorem clearL_iff (l : List UInt8) (i : Nat) : clearL l i = true ↔ ∀ k, i ≤ k → k < 128 → bitL l k = false := by
  unfold clearL
  simp only [List.all_eq_true, List.mem_range, Bool.or_eq_true, decide_eq_true_eq, Bool.not_eq_true']
  constructor
  · intro h k h1 h2
    rcases h k h2 with h | h
    · omega
    · exact h
  · intro h k hk
    rcases Nat.lt_or_ge k i with h1 | h1
    · exact .inl h1
    · exact .inr (h k h1 hk)

set_option maxRecDepth 100000 in
set_option maxHeartbeats 400000 in
theorem clear_any (l : List UInt8) (hl : l.length = 16) (n : Int) (w : World) (h0 : 0 ≤ n) (h1 : n ≤ 128) :
    Calls Tryd.prog 40 #[.agg (encB l).toArray, .int .i64 n] w fun e w' => e = .returned (.bool (clearL l n.toNat)) ∧ Below w.heap.size w w' := by
  obtain ⟨n, rfl⟩ := Int.eq_ofNat_of_zero_le h0
  rw [Int.toNat_natCast]
  go_enter Tryd.func40, Tryd.ntmps40
  go_wp2
  go_loop [5] (fun i => ∃ k : Nat, n ≤ k ∧ k ≤ 128 ∧ (∀ j, n ≤ j → j < k → bitL l j = false) ∧ i = .int .i64 k) (fun i => 128 - (intOf i).toNat)
  case atStart => exact ⟨n, by omega, by omega, fun j a b => by omega, rfl⟩
  case round =>
    obtain ⟨k, hk0, hk1, hz, rfl⟩ := hrel
    have Hz := Lib.hid hz
    clear hz
    by_cases hlt : k < 128
    · have hc := cellB l hl (k / 8) (by omega) w 31
      have hb := u8_bit (l[k / 8]?.getD 0).toNat (7 - k % 8) (UInt8.toNat_lt _)
      have hbit : ((l[k / 8]?.getD 0).toNat / 2 ^ (7 - k % 8) % 2 == 1) = bitL l k := by simp [bitL]
      rw [hbit] at hb
      have HL := Lib.hid hl; clear hl hbit
      by_cases hbk : bitL l k = true
      · rw [hbk] at hb
        have hfin : clearL l n = false := by
          rw [Bool.eq_false_iff]; intro h
          have := (clearL_iff l n).1 h k hk0 hlt
          rw [hbk] at this; cases this
        have Hfin := Lib.hid hfin
        clear hfin hbk
        go_wp2
        go_ret
        exact ⟨ret_bool Hfin.out.symm, (Below.refl _ _).alloc (Nat.le_refl _) _⟩
      · rw [Bool.not_eq_true] at hbk
        rw [hbk] at hb
        have Hb := Lib.hid hbk; clear hbk
        go_wp2
        go_round
        case rel => exact ⟨k + 1, by omega, by omega, fun j a b => by
          rcases Nat.lt_or_ge j k with h | h
          · exact Hz.out j a h
          · rw [show j = k by omega]; exact Hb.out, by go_num⟩
        case measure => simp [intOf]; omega
    · obtain rfl : k = 128 := by omega
      have hfin : clearL l n = true := (clearL_iff l n).2 fun j a b => Hz.out j a b
      have Hfin := Lib.hid hfin
      clear hl hfin
      go_wp2
      go_ret
      exact ⟨ret_bool Hfin.out.symm, (Below.refl _ _).alloc (Nat.le_refl _) _⟩

theorem width_bd (n : Int) : 0 ≤ width n ∧ width n ≤ 128 := by unfold width; split <;> (try split) <;> omega

set_option maxRecDepth 100000 in
set_option maxHeartbeats 400000 in
theorem checkAddr_any (a : Adr) (w : World) (hg : Glob w) :
    Calls Tryd.prog 38 #[.agg (encA a).toArray] w fun e w' => e = .returned (.int .i64 (if okA a = true then 0 else 150)) ∧ Below w.heap.size w w' := by
  have hw := width_bd a.ver
  have cw := fun o => width_any a.ver _ (hg.alloc o)
  have cc := fun W => clear_any a.bs a.len (width a.ver) W hw.1 hw.2
  have hok : okA a = (decide (width a.ver ≠ 0) && clearL a.bs (width a.ver).toNat) := rfl
  generalize clearL a.bs (width a.ver).toNat = r at cc hok
  generalize width a.ver = wd at cw cc hok hw
  obtain ⟨hw0, hw1⟩ := hw
  rw [hok]
  clear hok hg
  by_cases h0 : wd = 0
  · subst h0
    simp only [ne_eq, not_true_eq_false, decide_false, Bool.false_and, Bool.false_eq_true, if_false]
    clear cc
    go_enter Tryd.func38, Tryd.ntmps38
    go_wp2_with (go_at_call 39; refine (cw _).mono ?_; rintro e w' ⟨rfl, rfl⟩)
    go_ret
    exact ⟨rfl, (Below.refl _ _).alloc (Nat.le_refl _) _⟩
  · have h0' : (wd == 0) = false := by simpa using h0
    have h0'' : decide (wd ≠ 0) = true := by simpa using h0
    rw [h0'']
    simp only [Bool.true_and]
    cases r
    · have cc' := fun W => Calls.to_gw (cc W)
      clear cc h0 h0''
      go_enter Tryd.func38, Tryd.ntmps38
      go_wp2_with (first
        | (go_at_call 39; refine (cw _).mono ?_; rintro e w' ⟨rfl, rfl⟩)
        | (go_at_call 40; refine (cc' _).mono ?_; rintro e w' ⟨rfl, d, os, rfl⟩))
      go_ret
      exact ⟨rfl, below_gw' ((Below.refl _ _).alloc (Nat.le_refl _) _) (by simp) _ _⟩
    · have cc' := fun W => Calls.to_gw (cc W)
      clear cc h0 h0''
      go_enter Tryd.func38, Tryd.ntmps38
      go_wp2_with (first
        | (go_at_call 39; refine (cw _).mono ?_; rintro e w' ⟨rfl, rfl⟩)
        | (go_at_call 40; refine (cc' _).mono ?_; rintro e w' ⟨rfl, d, os, rfl⟩))
      go_ret
      exact ⟨rfl, below_gw' ((Below.refl _ _).alloc (Nat.le_refl _) _) (by simp) _ _⟩

end Go.Proofs.YtfdebdbmdbmbbaaDoor
