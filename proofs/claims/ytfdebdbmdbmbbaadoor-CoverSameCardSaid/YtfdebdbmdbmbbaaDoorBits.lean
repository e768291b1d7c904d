/- Prefixes as numbers: the bytes' value, what a prefix holds, its halves: plain. -/
import Derived.Test.YtfdebdbmdbmbbaaDoorOneL
import Derived.Test.YtfdebdbmdbmbbaaDoorOrder
set_option linter.unusedSimpArgs false
set_option linter.unusedVariables false
namespace Go.Proofs.YtfdebdbmdbmbbaaDoor

/-- Bytes as a number. -/
def valB : List UInt8 → Nat
  | [] => 0
  | b :: l => 2 ^ (8 * l.length) * b.toNat + valB l
theorem valB_lt : ∀ l : List UInt8, valB l < 2 ^ (8 * l.length)
  | [] => by simp [valB]
  | b :: l => by
    have ih := valB_lt l
    have hb := b.toNat_lt
    simp only [valB, List.length_cons]
    rw [show 8 * (l.length + 1) = 8 * l.length + 8 by omega, Nat.pow_add]
    have : 2 ^ (8 * l.length) * b.toNat ≤ 2 ^ (8 * l.length) * 255 := Nat.mul_le_mul_left _ (by omega)
    omega
theorem testBit_valB : ∀ (l : List UInt8) (i : Nat), i < 8 * l.length → (valB l).testBit i = (l.getD (l.length - 1 - i / 8) 0).toNat.testBit (i % 8)
  | [], i, h => by simp at h
  | b :: l, i, h => by
    simp only [valB, List.length_cons] at *
    rw [Nat.testBit_two_pow_mul_add _ (valB_lt l)]
    by_cases hi : i < 8 * l.length
    · rw [if_pos hi, testBit_valB l i hi]
      obtain ⟨j, hj⟩ : ∃ j, l.length + 1 - 1 - i / 8 = j + 1 := ⟨l.length - 1 - i / 8, by omega⟩
      rw [hj, List.getD_cons_succ, show l.length - 1 - i / 8 = j by omega]
    · rw [if_neg hi, show l.length + 1 - 1 - i / 8 = 0 by omega, List.getD_cons_zero, show i - 8 * l.length = i % 8 by omega]
theorem bitL_testBit (l : List UInt8) (hl : l.length = 16) (k : Nat) (hk : k < 128) : bitL l k = (valB l).testBit (127 - k) := by
  rw [testBit_valB l _ (by omega), hl]
  unfold bitL
  rw [show 16 - 1 - (127 - k) / 8 = k / 8 by omega, show (127 - k) % 8 = 7 - k % 8 by omega, Nat.testBit_eq_decide_div_mod_eq]
  simp [Bool.beq_eq_decide_eq]
theorem valB_ext {l m : List UInt8} (hl : l.length = 16) (hm : m.length = 16) (h : valB l = valB m) : l = m := by
  have : ∀ l m : List UInt8, l.length = m.length → valB l = valB m → l = m := by
    intro l
    induction l with
    | nil => intro m h _; cases m with
      | nil => rfl
      | cons b m => simp at h
    | cons a l ih => intro m h h2; cases m with
      | nil => simp at h
      | cons b m =>
        simp only [List.length_cons, valB] at h h2
        have e : l.length = m.length := by omega
        have h3 := valB_lt l
        have h4 := valB_lt m
        rw [e] at h2 h3
        have h5 : (2 ^ (8 * m.length) * a.toNat + valB l) / 2 ^ (8 * m.length) = (2 ^ (8 * m.length) * b.toNat + valB m) / 2 ^ (8 * m.length) := by rw [h2]
        rw [Nat.mul_add_div (Nat.two_pow_pos _), Nat.mul_add_div (Nat.two_pow_pos _), Nat.div_eq_of_lt h3, Nat.div_eq_of_lt h4] at h5
        have h6 : a = b := UInt8.toNat_inj.1 (by omega)
        subst h6
        rw [ih m e (by omega)]
  exact this l m (by omega) h
theorem valB_eq_bits {l m : List UInt8} (hl : l.length = 16) (hm : m.length = 16) (h : ∀ k, k < 128 → bitL l k = bitL m k) : valB l = valB m := by
  apply Nat.eq_of_testBit_eq
  intro i
  by_cases hi : i < 128
  · have := h (127 - i) (by omega)
    rw [bitL_testBit l hl _ (by omega), bitL_testBit m hm _ (by omega), show 127 - (127 - i) = i by omega] at this
    exact this
  · have h1 := valB_lt l
    have h2 := valB_lt m
    rw [hl] at h1
    rw [hm] at h2
    have hp : 2 ^ (8 * 16) ≤ 2 ^ i := Nat.pow_le_pow_right (by omega) (by omega)
    rw [Nat.testBit_lt_two_pow (by omega), Nat.testBit_lt_two_pow (by omega)]
theorem valB_of_bits {l : List UInt8} (hl : l.length = 16) (x : Nat) (hx : x < 2 ^ 128) (h : ∀ k, k < 128 → bitL l k = x.testBit (127 - k)) : valB l = x := by
  apply Nat.eq_of_testBit_eq
  intro i
  by_cases hi : i < 128
  · have := h (127 - i) (by omega)
    rw [bitL_testBit l hl _ (by omega), show 127 - (127 - i) = i by omega] at this
    exact this
  · have h1 := valB_lt l
    rw [hl] at h1
    have hp : 2 ^ 128 ≤ 2 ^ i := Nat.pow_le_pow_right (by omega) (by omega)
    rw [Nat.testBit_lt_two_pow (by omega), Nat.testBit_lt_two_pow (by omega)]
theorem valB_lt' {l : List UInt8} (hl : l.length = 16) : valB l < 2 ^ 128 := by
  have := valB_lt l
  rw [hl] at this
  exact this
theorem clearL_val (l : List UInt8) (hl : l.length = 16) (n : Nat) (hn : n ≤ 128) : clearL l n = true ↔ valB l % 2 ^ (128 - n) = 0 := by
  rw [clearL_iff]
  constructor
  · intro h
    apply Nat.eq_of_testBit_eq
    intro i
    rw [Nat.testBit_mod_two_pow, Nat.zero_testBit]
    by_cases hi : i < 128 - n
    · have := h (127 - i) (by omega) (by omega)
      rw [bitL_testBit l hl _ (by omega), show 127 - (127 - i) = i by omega] at this
      simp [this]
    · simp [hi]
  · intro h k h1 h2
    rw [bitL_testBit l hl k h2]
    have : (valB l % 2 ^ (128 - n)).testBit (127 - k) = false := by rw [h]; exact Nat.zero_testBit _
    rw [Nat.testBit_mod_two_pow] at this
    simpa [show 127 - k < 128 - n by omega] using this
theorem cutB_bit (b : UInt8) (keep : Int) (j : Nat) (hj : j < 8) : (cutB b keep).toNat.testBit j = (decide (7 - (j : Int) < keep) && b.toNat.testBit j) := by
  unfold cutB
  by_cases h : keep ≤ 0
  · rw [if_pos h]; simp; omega
  · rw [if_neg h]
    by_cases h8 : keep < 8
    · rw [if_pos h8]
      have hb := b.toNat_lt
      have hm : b.toNat / 2 ^ (8 - keep.toNat) * 2 ^ (8 - keep.toNat) ≤ b.toNat := Nat.div_mul_le_self _ _
      have e : (UInt8.ofNat (b.toNat / 2 ^ (8 - keep.toNat) * 2 ^ (8 - keep.toNat))).toNat = b.toNat / 2 ^ (8 - keep.toNat) * 2 ^ (8 - keep.toNat) := by
        rw [UInt8.toNat_ofNat']
        exact Nat.mod_eq_of_lt (by omega)
      rw [e, Nat.mul_comm, Nat.testBit_two_pow_mul]
      by_cases hs : 8 - keep.toNat ≤ j
      · rw [Nat.testBit_div_two_pow, show j - (8 - keep.toNat) + (8 - keep.toNat) = j by omega]
        have : 7 - (j : Int) < keep := by omega
        simp [hs, this]
      · have : ¬ 7 - (j : Int) < keep := by omega
        simp [hs, this]
    · rw [if_neg h8]
      have : 7 - (j : Int) < keep := by omega
      simp [this]
theorem cutL_bit (l : List UInt8) (n : Int) (k : Nat) (hk : k < 128) : bitL (cutL l n) k = (decide ((k : Int) < n) && bitL l k) := by
  unfold bitL
  have e : (cutL l n).getD (k / 8) 0 = cutB (l.getD (k / 8) 0) (n - 8 * ((k / 8 : Nat) : Int)) := by
    unfold cutL
    rw [List.getD_eq_getElem?_getD, List.getElem?_map, List.getElem?_range (by omega)]; rfl
  have hb := cutB_bit (l.getD (k / 8) 0) (n - 8 * ((k / 8 : Nat) : Int)) (7 - k % 8) (by omega)
  rw [e]
  rw [Nat.testBit_eq_decide_div_mod_eq, Nat.testBit_eq_decide_div_mod_eq] at hb
  have e2 : decide (7 - ((7 - k % 8 : Nat) : Int) < n - 8 * ((k / 8 : Nat) : Int)) = decide ((k : Int) < n) := by
    apply decide_eq_decide.2; omega
  rw [e2] at hb
  simpa [Bool.beq_eq_decide_eq] using hb
theorem cutL_val (l : List UInt8) (hl : l.length = 16) (n : Nat) (hn : n ≤ 128) : valB (cutL l n) = valB l / 2 ^ (128 - n) * 2 ^ (128 - n) := by
  refine valB_of_bits (cutL_length _ _) _ (Nat.lt_of_le_of_lt (Nat.div_mul_le_self _ _) (valB_lt' hl)) fun k hk => ?_
  rw [cutL_bit _ _ _ hk, bitL_testBit l hl k hk, Nat.mul_comm, Nat.testBit_two_pow_mul, Nat.testBit_div_two_pow]
  by_cases h : k < n
  · rw [show 127 - k - (128 - n) + (128 - n) = 127 - k by omega]
    simp [h]; omega
  · simp [h]; omega
theorem flipL_bit (l : List UInt8) (hl : l.length = 16) (i : Nat) (hi : i < 128) (k : Nat) (hk : k < 128) : bitL (flipL l i) k = (bitL l k ^^ decide (k = i)) := by
  unfold bitL flipL
  rw [List.getD_eq_getElem?_getD, List.getElem?_set]
  by_cases h8 : i / 8 = k / 8
  · rw [if_pos h8, if_pos (by omega)]
    simp only [Option.getD_some]
    rw [List.getD_eq_getElem?_getD, h8]
    generalize l[k / 8]?.getD 0 = b
    have hb := b.toNat_lt
    have h1 : 128 / 2 ^ (i % 8) = 2 ^ (7 - i % 8) := by
      have : i % 8 < 8 := by omega
      generalize i % 8 = j at this
      match j, this with
      | 0, _ => rfl
      | 1, _ => rfl
      | 2, _ => rfl
      | 3, _ => rfl
      | 4, _ => rfl
      | 5, _ => rfl
      | 6, _ => rfl
      | 7, _ => rfl
    have h2 : b.toNat ^^^ (2 ^ (7 - i % 8)) < 256 := Nat.xor_lt_two_pow (n := 8) hb (Nat.pow_lt_pow_right (by omega) (by omega))
    rw [h1, UInt8.toNat_ofNat', Nat.mod_eq_of_lt h2]
    have e := Nat.testBit_xor b.toNat (2 ^ (7 - i % 8)) (7 - k % 8)
    rw [Nat.testBit_two_pow, Nat.testBit_eq_decide_div_mod_eq, Nat.testBit_eq_decide_div_mod_eq] at e
    have e2 : decide (7 - i % 8 = 7 - k % 8) = decide (k = i) := by apply decide_eq_decide.2; omega
    rw [e2] at e
    simpa [Bool.beq_eq_decide_eq] using e
  · rw [if_neg h8, List.getD_eq_getElem?_getD]
    have : ¬ k = i := by rintro rfl; exact h8 rfl
    simp [this]
theorem flipL_val (l : List UInt8) (hl : l.length = 16) (i : Nat) (hi : i < 128) : valB (flipL l i) = valB l ^^^ 2 ^ (127 - i) := by
  refine valB_of_bits ((flipL_length _ _).trans hl) _ (Nat.xor_lt_two_pow (valB_lt' hl) (Nat.pow_lt_pow_right (by omega) (by omega))) fun k hk => ?_
  rw [flipL_bit l hl i hi k hk, bitL_testBit l hl k hk, Nat.testBit_xor, Nat.testBit_two_pow]
  congr 1
  apply decide_eq_decide.2; omega
theorem cmpB_val : ∀ l m : List UInt8, l.length = m.length → (cmpB l m < 0 ↔ valB l < valB m)
  | [], [], _ => by simp [cmpB]
  | [], _ :: _, h => by simp at h
  | _ :: _, [], h => by simp at h
  | a :: l, b :: m, h => by
    have e : l.length = m.length := by simpa using h
    have ih := cmpB_val l m e
    have h3 := valB_lt l
    have h4 := valB_lt m
    simp only [valB]
    rw [e] at h3 ⊢
    unfold cmpB
    by_cases h1 : a < b
    · rw [if_pos h1]
      have h1' : a.toNat + 1 ≤ b.toNat := UInt8.lt_iff_toNat_lt.1 h1
      have : 2 ^ (8 * m.length) * (a.toNat + 1) ≤ 2 ^ (8 * m.length) * b.toNat := Nat.mul_le_mul_left _ h1'
      rw [Nat.mul_add] at this
      simp; omega
    · rw [if_neg h1]
      by_cases h2 : b < a
      · rw [if_pos h2]
        have h1' : b.toNat + 1 ≤ a.toNat := UInt8.lt_iff_toNat_lt.1 h2
        have : 2 ^ (8 * m.length) * (b.toNat + 1) ≤ 2 ^ (8 * m.length) * a.toNat := Nat.mul_le_mul_left _ h1'
        rw [Nat.mul_add] at this
        simp; omega
      · rw [if_neg h2]
        have : a.toNat = b.toNat := by
          rw [UInt8.lt_iff_toNat_lt] at h1 h2; omega
        rw [this, ih]; omega

/-- How many bits, and which number they are. -/
def lP (p : Pfx) : Nat := p.bits.toNat
def loP (p : Pfx) : Nat := valB p.a.bs
def nP (p : Pfx) : Nat := loP p / 2 ^ (128 - lP p)

theorem okP_iff (p : Pfx) : okP p = true ↔ okA p.a = true ∧ 0 ≤ p.bits ∧ p.bits ≤ width p.a.ver ∧ clearL p.a.bs p.bits.toNat = true := by
  unfold okP; simp [and_assoc]
theorem ok_l {p : Pfx} (h : okP p = true) : lP p ≤ 128 ∧ (lP p : Int) = p.bits := by
  obtain ⟨_, h0, h1, _⟩ := (okP_iff p).1 h
  have := width_bd p.a.ver
  unfold lP; omega
theorem ok_lo {p : Pfx} (h : okP p = true) : loP p = nP p * 2 ^ (128 - lP p) := by
  have hl := ok_l h
  obtain ⟨_, h0, h1, hc⟩ := (okP_iff p).1 h
  rw [show p.bits.toNat = lP p from rfl, clearL_val _ p.a.len _ hl.1] at hc
  have := Nat.div_add_mod (loP p) (2 ^ (128 - lP p))
  rw [show loP p % 2 ^ (128 - lP p) = 0 from hc, Nat.add_zero, Nat.mul_comm] at this
  exact this.symm
theorem ok_ext {p q : Pfx} (hp : okP p = true) (hq : okP q = true) (hv : p.a.ver = q.a.ver) (hl : lP p = lP q) (hn : nP p = nP q) : p = q := by
  have h1 := ok_lo hp
  have h2 := ok_lo hq
  rw [hl, hn, ← h2] at h1
  have h3 := ok_l hp
  have h4 := ok_l hq
  exact Pfx.ext' hv (valB_ext p.a.len q.a.len h1) (by omega)
theorem div_pow_split (x a b : Nat) (h : b ≤ a) : x / 2 ^ a = x / 2 ^ b / 2 ^ (a - b) := by
  rw [Nat.div_div_eq_div_mul, ← Nat.pow_add, show b + (a - b) = a by omega]
theorem holds_iff {p q : Pfx} (hp : okP p = true) (hq : okP q = true) : holdsP p q = true ↔ p.a.ver = q.a.ver ∧ lP p ≤ lP q ∧ loP q / 2 ^ (128 - lP p) = nP p := by
  have hl := ok_l hp
  have hl2 := ok_l hq
  have ha := ((okP_iff q).1 hq).1
  have hlo := ok_lo hp
  have hcut := cutL_val q.a.bs q.a.len (lP p) hl.1
  unfold holdsP hasP
  rw [hq, hp, ha, ← hl.2, ← hl2.2]
  simp only [Bool.true_and, Bool.and_eq_true, decide_eq_true_eq]
  have key : cutL q.a.bs (lP p : Int) = p.a.bs ↔ loP q / 2 ^ (128 - lP p) = nP p := by
    constructor
    · intro h
      rw [h] at hcut
      have h2 : nP p * 2 ^ (128 - lP p) = loP q / 2 ^ (128 - lP p) * 2 ^ (128 - lP p) := hlo.symm.trans hcut
      exact (Nat.eq_of_mul_eq_mul_right (Nat.two_pow_pos _) h2).symm
    · intro h
      refine valB_ext (cutL_length _ _) p.a.len ?_
      rw [hcut]
      show loP q / _ * _ = loP p
      rw [h, hlo]
  rw [key]
  constructor
  · rintro ⟨h1, h2, h3⟩; exact ⟨h2, by omega, h3⟩
  · rintro ⟨h1, h2, h3⟩; exact ⟨by omega, h1, h3⟩
theorem orI_neg (a b : Int) : orI a b < 0 ↔ a < 0 ∨ (a = 0 ∧ b < 0) := by unfold orI; split <;> omega
theorem cmpI_neg (a b : Int) : (cmpI a b < 0 ↔ a < b) ∧ (cmpI a b = 0 ↔ a = b) := by unfold cmpI; (repeat' split) <;> omega
theorem cmp_iff {p q : Pfx} (hp : okP p = true) (hq : okP q = true) : compareP p q < 0 ↔ p.a.ver < q.a.ver ∨ (p.a.ver = q.a.ver ∧ (loP p < loP q ∨ (loP p = loP q ∧ lP p < lP q))) := by
  have hl := ok_l hp
  have hl2 := ok_l hq
  unfold compareP
  rw [orI_neg, orI_neg, (cmpI_neg _ _).1, (cmpI_neg _ _).2, (cmpI_neg _ _).1, cmpB_val _ _ (p.a.len.trans q.a.len.symm), cmpB_eq0]
  have e : p.a.bs = q.a.bs ↔ loP p = loP q := ⟨fun h => by unfold loP; rw [h], fun h => valB_ext p.a.len q.a.len h⟩
  rw [e]
  show _ ∨ _ ∧ (loP p < loP q ∨ _) ↔ _
  omega
theorem xor_one (x : Nat) : x ^^^ 1 = if x % 2 = 0 then x + 1 else x - 1 := by
  by_cases h : x % 2 = 0
  · rw [if_pos h]
    obtain ⟨k, rfl⟩ : ∃ k, x = 2 * k := ⟨x / 2, by omega⟩
    apply Nat.eq_of_testBit_eq
    intro i
    rw [Nat.testBit_xor]
    cases i with
    | zero => simp [Nat.testBit_zero]
    | succ i => rw [Nat.testBit_succ, Nat.testBit_succ, Nat.testBit_succ, show 1 / 2 = 0 from rfl, Nat.zero_testBit, Bool.xor_false]; congr 1; omega
  · rw [if_neg h]
    obtain ⟨k, rfl⟩ : ∃ k, x = 2 * k + 1 := ⟨x / 2, by omega⟩
    apply Nat.eq_of_testBit_eq
    intro i
    rw [Nat.testBit_xor]
    cases i with
    | zero => simp [Nat.testBit_zero]
    | succ i => rw [Nat.testBit_succ, Nat.testBit_succ, Nat.testBit_succ, show 1 / 2 = 0 from rfl, Nat.zero_testBit, Bool.xor_false]; congr 1; omega
theorem half_ok {p : Pfx} (hp : okP p = true) (h : 0 < lP p) : okP (halfP p) = true ∧ (halfP p).a.ver = p.a.ver ∧ lP (halfP p) = lP p ∧ nP (halfP p) = if nP p % 2 = 0 then nP p + 1 else nP p - 1 := by
  have hl := ok_l hp
  have hlo := ok_lo hp
  obtain ⟨ha, h0, h1, hc⟩ := (okP_iff p).1 hp
  have hi : (p.bits - 1).toNat = lP p - 1 := by omega
  have hval : loP (halfP p) = loP p ^^^ 2 ^ (128 - lP p) := by
    show valB (flipL p.a.bs (p.bits - 1).toNat) = _
    rw [hi, flipL_val _ p.a.len _ (by omega), show 127 - (lP p - 1) = 128 - lP p by omega]; rfl
  have hx : loP p ^^^ 2 ^ (128 - lP p) = (nP p ^^^ 1) * 2 ^ (128 - lP p) := by
    rw [hlo, ← Nat.shiftLeft_eq, ← Nat.shiftLeft_eq, Nat.shiftLeft_xor_distrib]
    congr 1
    rw [Nat.shiftLeft_eq, Nat.one_mul]
  rw [hx] at hval
  have hn : nP (halfP p) = nP p ^^^ 1 := by
    show loP (halfP p) / 2 ^ (128 - lP p) = _
    rw [hval, Nat.mul_div_cancel _ (Nat.two_pow_pos _)]
  have hcl : clearL (halfP p).a.bs (lP p) = true := by
    rw [clearL_val _ (halfP p).a.len _ hl.1]
    show loP (halfP p) % _ = 0
    rw [hval, Nat.mul_mod_left]
  refine ⟨?_, rfl, rfl, by rw [hn, xor_one]⟩
  rw [okP_iff]
  refine ⟨?_, h0, h1, hcl⟩
  unfold okA at ha ⊢
  simp only [Bool.and_eq_true, decide_eq_true_eq] at ha ⊢
  refine ⟨ha.1, ?_⟩
  have hw := width_bd p.a.ver
  show clearL (halfP p).a.bs (width p.a.ver).toNat = true
  rw [clearL_iff] at hcl ⊢
  intro k hk hk2
  exact hcl k (by omega) hk2
theorem up_ok {p : Pfx} (hp : okP p = true) (h : 0 < lP p) : okP (upP p) = true ∧ (upP p).a.ver = p.a.ver ∧ lP (upP p) + 1 = lP p ∧ nP (upP p) = nP p / 2 := by
  have hl := ok_l hp
  have hlo := ok_lo hp
  obtain ⟨ha, h0, h1, hc⟩ := (okP_iff p).1 hp
  have e : upP p = ⟨⟨p.a.ver, cutL p.a.bs (p.bits - 1), cutL_length _ _⟩, p.bits - 1⟩ := by
    unfold upP ofP
    rw [if_pos ha, if_pos (by omega)]
  have hb : p.bits - 1 = ((lP p - 1 : Nat) : Int) := by omega
  rw [e, hb]
  have hval := cutL_val p.a.bs p.a.len (lP p - 1) (by omega)
  have hdiv := div_pow_split (valB p.a.bs) (128 - (lP p - 1)) (128 - lP p) (by omega)
  rw [show 128 - (lP p - 1) - (128 - lP p) = 1 by omega, Nat.pow_one] at hdiv
  have hn : valB (cutL p.a.bs ((lP p - 1 : Nat) : Int)) / 2 ^ (128 - (lP p - 1)) = nP p / 2 := by
    rw [hval, Nat.mul_div_cancel _ (Nat.two_pow_pos _), hdiv]; rfl
  have hcl : clearL (cutL p.a.bs ((lP p - 1 : Nat) : Int)) (lP p - 1) = true := by
    rw [clearL_val _ (cutL_length _ _) _ (by omega), hval, Nat.mul_mod_left]
  refine ⟨?_, rfl, by simp [lP] at h ⊢; omega, ?_⟩
  · rw [okP_iff]
    refine ⟨?_, by simp, by simp only; omega, by simpa using hcl⟩
    unfold okA at ha ⊢
    simp only [Bool.and_eq_true, decide_eq_true_eq] at ha ⊢
    refine ⟨ha.1, ?_⟩
    rw [clearL_iff] at hcl ⊢
    intro k hk hk2
    exact hcl k (by omega) hk2
  · show valB (cutL p.a.bs ((lP p - 1 : Nat) : Int)) / 2 ^ (128 - ((lP p - 1 : Nat) : Int).toNat) = _
    rw [Int.toNat_natCast]
    exact hn

/-- Is a point (of the version v) in a prefix? -/
def inP (v : Int) (x : Nat) (p : Pfx) : Prop := p.a.ver = v ∧ x / 2 ^ (128 - lP p) = nP p
theorem in_of_holds {p q : Pfx} (hp : okP p = true) (hq : okP q = true) (h : holdsP p q = true) {v : Int} {x : Nat} (hx : inP v x q) : inP v x p := by
  obtain ⟨h1, h2, h3⟩ := (holds_iff hp hq).1 h
  obtain ⟨h4, h5⟩ := hx
  refine ⟨h1.trans h4, ?_⟩
  have hl := ok_l hq
  rw [div_pow_split x (128 - lP p) (128 - lP q) (by omega), h5, ← h3, ok_lo hq, div_pow_split (nP q * 2 ^ (128 - lP q)) (128 - lP p) (128 - lP q) (by omega), Nat.mul_div_cancel _ (Nat.two_pow_pos _)]
theorem holds_of_in {p q : Pfx} (hp : okP p = true) (hq : okP q = true) {v : Int} {x : Nat} (h1 : inP v x p) (h2 : inP v x q) (hl : lP p ≤ lP q) : holdsP p q = true := by
  rw [holds_iff hp hq]
  refine ⟨h1.1.trans h2.1.symm, hl, ?_⟩
  have hl2 := ok_l hq
  rw [← h1.2, ok_lo hq, div_pow_split (nP q * 2 ^ (128 - lP q)) (128 - lP p) (128 - lP q) (by omega), Nat.mul_div_cancel _ (Nat.two_pow_pos _), ← h2.2, ← div_pow_split x (128 - lP p) (128 - lP q) (by omega)]
theorem in_lo {p : Pfx} : inP p.a.ver (loP p) p := ⟨rfl, rfl⟩
theorem holds_refl {p : Pfx} (hp : okP p = true) : holdsP p p = true := holds_of_in hp hp in_lo in_lo (Nat.le_refl _)
theorem in_bd {p : Pfx} (hp : okP p = true) {v : Int} {x : Nat} : inP v x p ↔ p.a.ver = v ∧ loP p ≤ x ∧ x < loP p + 2 ^ (128 - lP p) := by
  unfold inP
  rw [ok_lo hp]
  have hpos := Nat.two_pow_pos (128 - lP p)
  generalize 2 ^ (128 - lP p) = s at *
  constructor
  · rintro ⟨h1, h2⟩
    have h3 := Nat.div_add_mod x s
    have h4 := Nat.mod_lt x hpos
    rw [h2, Nat.mul_comm] at h3
    exact ⟨h1, by omega, by omega⟩
  · rintro ⟨h1, h2, h3⟩
    refine ⟨h1, ?_⟩
    rw [Nat.div_eq_iff hpos]
    omega
/-- A row's points. -/
def Mem (v : Int) (x : Nat) (l : List Pfx) : Prop := ∃ p ∈ l, inP v x p
theorem Mem.append {v : Int} {x : Nat} {l m : List Pfx} : Mem v x (l ++ m) ↔ Mem v x l ∨ Mem v x m := by
  unfold Mem; simp only [List.mem_append]
  constructor
  · rintro ⟨p, h | h, hp⟩
    · exact .inl ⟨p, h, hp⟩
    · exact .inr ⟨p, h, hp⟩
  · rintro (⟨p, h, hp⟩ | ⟨p, h, hp⟩)
    · exact ⟨p, .inl h, hp⟩
    · exact ⟨p, .inr h, hp⟩
theorem Mem.one {v : Int} {x : Nat} {p : Pfx} : Mem v x [p] ↔ inP v x p := by unfold Mem; simp

end Go.Proofs.YtfdebdbmdbmbbaaDoor
