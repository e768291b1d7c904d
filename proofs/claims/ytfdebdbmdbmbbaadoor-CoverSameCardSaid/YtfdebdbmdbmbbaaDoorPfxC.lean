/- The walk of prefix.cut. -/
import Derived.Test.YtfdebdbmdbmbbaaDoorPfxB
import Derived.RegionTactic
set_option linter.unusedSimpArgs false
set_option linter.unusedVariables false
namespace Go.Proofs.YtfdebdbmdbmbbaaDoor
open Go.RowKit

/-- The first k bytes are cut. -/
def pcut (l : List UInt8) (n : Int) (k : Nat) : List UInt8 := (cutL l n).take k ++ l.drop k

theorem pcut_zero (l : List UInt8) (n : Int) : pcut l n 0 = l := by simp [pcut]
theorem pcut_end (l : List UInt8) (hl : l.length = 16) (n : Int) : pcut l n 16 = cutL l n := by
  simp [pcut, List.take_of_length_le (show (cutL l n).length ≤ 16 by simp [cutL_length]), List.drop_of_length_le (show l.length ≤ 16 by omega)]
theorem pcut_get (l : List UInt8) (n : Int) (k : Nat) (hk : k < 16) : (pcut l n k)[k]? = l[k]? := by
  unfold pcut
  rw [List.getElem?_append_right (by simp [cutL_length]; omega), List.getElem?_drop]
  congr 1
  simp [cutL_length]; omega
theorem cutL_get (l : List UInt8) (n : Int) (k : Nat) (hk : k < 16) : (cutL l n)[k]? = some (cutB (l[k]?.getD 0) (n - 8 * (k : Int))) := by
  simp [cutL, hk]
theorem pcut_succ (l : List UInt8) (hl : l.length = 16) (n : Int) (k : Nat) (hk : k < 16) : (encB (pcut l n k)).toArray.setIfInBounds k (.int .u8 ((cutB (l[k]?.getD 0) (n - 8 * (k : Int))).toNat : Int)) = (encB (pcut l n (k + 1))).toArray := by
  have h1 : pcut l n (k + 1) = (pcut l n k).set k (cutB (l[k]?.getD 0) (n - 8 * (k : Int))) := by
    apply List.ext_getElem?
    intro j
    rw [List.getElem?_set]
    have hlen : (pcut l n k).length = 16 := by simp [pcut, cutL_length, hl]; omega
    by_cases hj : k = j
    · subst hj
      rw [if_pos rfl, if_pos (by omega)]
      unfold pcut
      rw [List.getElem?_append_left (by simp [cutL_length]; omega), List.getElem?_take, if_pos (by omega), cutL_get l n k hk]
    · rw [if_neg hj]
      unfold pcut
      by_cases hjk : j < k
      · rw [List.getElem?_append_left (by simp [cutL_length]; omega), List.getElem?_append_left (by simp [cutL_length]; omega), List.getElem?_take, List.getElem?_take, if_pos (by omega), if_pos (by omega)]
      · rw [List.getElem?_append_right (by simp [cutL_length]; omega), List.getElem?_append_right (by simp [cutL_length]; omega), List.getElem?_drop, List.getElem?_drop]
        congr 1
        simp [cutL_length]; omega
  rw [h1]
  simp [encB, u8v, List.map_set]
theorem encB_get (l : List UInt8) (k : Nat) (hk : k < l.length) : (encB l)[k]? = some (.int .u8 ((l[k]?.getD 0).toNat : Int)) := by
  simp [encB, u8v, List.getElem?_eq_getElem hk]

theorem mask_u8 (x j : Nat) (hx : x < 256) (hj : j ≤ 8) : bits BinOp.and IntKind.u8 (x : Int) (255 * 2 ^ j % 256) = ((x / 2 ^ j * 2 ^ j : Nat) : Int) := by
  have e : (255 * 2 ^ j % 256 : Int) = ((255 * 2 ^ j % 256 : Nat) : Int) := by rw [Int.natCast_emod, Int.natCast_mul, Int.natCast_pow]; rfl
  rw [e, u8_and_nat x _ hx (Nat.mod_lt _ (by omega))]
  congr 1
  have hall : ∀ j, j < 9 → ∀ x, x < 256 → x &&& (255 * 2 ^ j % 256) = x / 2 ^ j * 2 ^ j := by decide +kernel
  exact hall j (by omega) x hx
theorem cutB_mask (b : UInt8) (n : Int) (k : Nat) (h0 : 0 < n - 8 * (k : Int)) (h8 : n - 8 * (k : Int) < 8) :
    bits BinOp.and IntKind.u8 (b.toNat : Int) (255 * 2 ^ (8 - (n - 8 * (k : Int))).toNat % 256) = ((cutB b (n - 8 * (k : Int))).toNat : Int) := by
  rw [mask_u8 b.toNat _ (UInt8.toNat_lt b) (by omega)]
  unfold cutB
  rw [if_neg (by omega), if_pos h8, show (8 - (n - 8 * (k : Int))).toNat = 8 - (n - 8 * (k : Int)).toNat by omega]
  generalize 8 - (n - 8 * (k : Int)).toNat = j
  have : b.toNat / 2 ^ j * 2 ^ j < 256 := Nat.lt_of_le_of_lt (Nat.div_mul_le_self _ _) (UInt8.toNat_lt b)
  simp [Nat.mod_eq_of_lt this]
theorem set_same (l : List UInt8) (k : Nat) (hk : k < l.length) (u : Value) (hu : (encB l)[k]? = some u) : (encB l).toArray.setIfInBounds k u = (encB l).toArray := by
  apply Array.ext_getElem?
  intro j
  rw [Array.getElem?_setIfInBounds]
  by_cases h : k = j
  · subst h; simp [hu, hk, encB_length]
    have := (List.getElem?_eq_some_iff.1 hu).2
    exact this.symm
  · rw [if_neg h]

set_option maxRecDepth 100000 in
set_option maxHeartbeats 1000000 in
theorem cut_any (l : List UInt8) (hl : l.length = 16) (n : Int) (w : World) (h0 : 0 ≤ n) (h1 : n ≤ 128) :
    Calls Tryd.prog 41 #[.agg (encB l).toArray, .int .i64 n] w fun e w' => e = .returned (.agg (encB (cutL l n)).toArray) ∧ Below w.heap.size w w' := by
  go_enter Tryd.func41, Tryd.ntmps41
  go_wp2
  go_loopw [5, 6, 7, 14, 19] (fun i kp c _ _ wr => ∃ k : Nat, k ≤ 16 ∧ c = .int .i64 k ∧ Blk wr w.heap.size 31 (encB (pcut l n k)).toArray ∧ wr.heap.size = w.heap.size + 2 ∧ Blk wr (w.heap.size + 1) 31 (encB (List.replicate 16 0)).toArray ∧ Below w.heap.size w wr) (fun _ _ c _ _ _ => 16 - (intOf c).toNat)
  case atStart =>
    refine ⟨0, by omega, rfl, ?_, by simp, ?_, ((Below.refl _ _).alloc (Nat.le_refl _) _).alloc (by simp) _⟩
    · rw [pcut_zero]; exact (Blk.new w _ _).alloc _
    · exact Blk.new' (w.alloc (Obj.cells (encB l).toArray 31)) _ (by simp) 31 _
  case round =>
    obtain ⟨k, hk, rfl, hB, hsz, hR, hbel⟩ := hrel
    have HL := Lib.hid hl
    by_cases hlt : k < 16
    · have hc := hB.cell k
      rw [List.getElem?_toArray, encB_get _ _ (by simp [pcut, cutL_length, hl]; omega), pcut_get l n k hlt] at hc
      have hf := hB.frozen k
      have HS := Lib.hid (pcut_succ l hl n k hlt)
      have HZ := Lib.hid hsz
      clear hl hsz
      by_cases hk0 : n - 8 * k ≤ 0
      · go_wp2
        go_roundw
        case rel =>
          refine ⟨k + 1, by omega, by go_num, ?_, by simpa [World.setCell] using HZ.out, hR.far (by simp) _, hbel.setCell (by simp) _⟩
          have h := hB.set_ k (.int .u8 0)
          have e := HS.out
          rw [show cutB (l[k]?.getD 0) (n - 8 * (k : Int)) = 0 by unfold cutB; rw [if_pos hk0]] at e
          rw [← e]
          exact h
        case measure => simp [intOf]; omega
      · by_cases hk8 : n - 8 * k < 8
        · go_wp2
          go_region
          go_wp2
          go_roundw
          case rel =>
            refine ⟨k + 1, by omega, by go_num, ?_, by simpa [World.setCell] using HZ.out, (hR.far (by simp) _).drew, (hbel.setCell (by simp) _).drew⟩
            have h := hB.set_ k (.int .u8 (bits BinOp.and IntKind.u8 ((l[k]?.getD 0).toNat : Int) (255 * 2 ^ (8 - (n - 8 * (k : Int))).toNat % 256)))
            rw [cutB_mask _ n k (by omega) (by omega)] at h ⊢
            rw [← HS.out]
            exact h
          case measure => simp [intOf]; omega
        · go_wp2
          go_roundw
          case rel =>
            refine ⟨k + 1, by omega, by go_num, ?_, HZ.out, hR, hbel⟩
            have e := HS.out
            rw [show cutB (l[k]?.getD 0) (n - 8 * (k : Int)) = l[k]?.getD 0 by unfold cutB; rw [if_neg hk0, if_neg hk8]] at e
            rw [set_same _ k (by simp [pcut, cutL_length, HL.out]; omega) _ (by rw [encB_get _ _ (by simp [pcut, cutL_length, HL.out]; omega), pcut_get l n k hlt])] at e
            rw [← e]
            exact hB
          case measure => simp [intOf]; omega
    · obtain rfl : k = 16 := by omega
      have hr := hB.row 0 16
      rw [pcut_end l hl, show cutRow (encB (cutL l n)).toArray 0 16 = some (encB (cutL l n)) by
        unfold cutRow; rw [if_pos (by simp [encB_length, cutL_length])]; simp [List.take_of_length_le (show (encB (cutL l n)).length ≤ 16 by simp [encB_length, cutL_length])]] at hr
      have hr2 : (rowAt wr (w.heap.size + 1) 0 16).isSome = true := by rw [hR.row]; rfl
      have hn2 := hR.noFr
      have hlen : (cutL l n).length = 16 := cutL_length l n
      clear hB hl hsz hR
      go_wp2
      have hres := rowAt_setCells_same wr (w.heap.size + 1) 0 (encB (cutL l n)) (w.heap.size + 1) 0 16 rfl rfl (by simp [encB_length, hlen]) (by omega) hr2
      refine bodyPost_ret (v := .agg (encB (cutL l n)).toArray) ?_ rfl ⟨rfl, below_setCells hbel _ _ _ (by omega)⟩
      have hl2 := run_loadVar_rowAt aggB (wr.setCells (w.heap.size + 1) 0 (encB (cutL l n))) (w.heap.size + 1) 0 (by rw [hres]; rfl)
      simp only [gotRow, hres, Option.getD_some] at hl2
      simp only [results, Tryd.results41]
      simp [asAddr, hl2]

end Go.Proofs.YtfdebdbmdbmbbaaDoor
