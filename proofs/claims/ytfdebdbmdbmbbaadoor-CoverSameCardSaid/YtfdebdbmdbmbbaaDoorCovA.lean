/- The walks of package cover: bit, half, up. -/
import Derived.Test.YtfdebdbmdbmbbaaDoorPfxF
import Derived.Test.YtfdebdbmdbmbbaaDoorTail
set_option linter.unusedSimpArgs false
set_option linter.unusedVariables false
namespace Go.Proofs.YtfdebdbmdbmbbaaDoor
open Go.RowKit

set_option maxRecDepth 100000 in
set_option maxHeartbeats 400000 in
theorem bit_any (i : Int) (w : World) (h0 : 0 ≤ i) : Calls Tryd.prog 42 #[.int .i64 i] w fun e w' => e = .returned (.int .u8 (128 / 2 ^ (i % 8).toNat)) ∧ w = w' := by
  go_enter Tryd.func42, Tryd.ntmps42
  go_wp2
  go_ret
  exact ⟨rfl, rfl⟩

/-- A bit turned. -/
def flipL (l : List UInt8) (i : Nat) : List UInt8 := l.set (i / 8) (UInt8.ofNat ((l[i / 8]?.getD 0).toNat ^^^ (128 / 2 ^ (i % 8))))

theorem encP_byte (p : Pfx) (j : Nat) (hj : j < 16) : (encP p)[1 + j]? = some (.int .u8 ((p.a.bs[j]?.getD 0).toNat : Int)) := by
  have hl := p.a.len
  unfold encP
  rw [List.getElem?_append_left (by simp [encB_length]; omega), Nat.add_comm 1 j, List.getElem?_cons_succ, encB_get _ _ (by omega)]

def flipB (l : List UInt8) (i : Nat) : UInt8 := UInt8.ofNat ((l[i / 8]?.getD 0).toNat ^^^ (128 / 2 ^ (i % 8)))
theorem flipL_length (l : List UInt8) (i : Nat) : (flipL l i).length = l.length := by simp [flipL]
def flipP (p : Pfx) (i : Nat) : Pfx := ⟨⟨p.a.ver, flipL p.a.bs i, (flipL_length _ _).trans p.a.len⟩, p.bits⟩
theorem xor_u8 (b : UInt8) (j : Nat) : bits BinOp.xor IntKind.u8 (b.toNat : Int) (128 / 2 ^ j) = ((UInt8.ofNat (b.toNat ^^^ (128 / 2 ^ j))).toNat : Int) := by
  have e : (128 / 2 ^ j : Int) = ((128 / 2 ^ j : Nat) : Int) := by rw [Int.natCast_ediv, Int.natCast_pow]; rfl
  have h1 : 128 / 2 ^ j < 256 := Nat.lt_of_le_of_lt (Nat.div_le_self _ _) (by omega)
  have h2 : b.toNat ^^^ (128 / 2 ^ j) < 256 := Nat.xor_lt_two_pow (n := 8) (UInt8.toNat_lt b) h1
  rw [e, u8_xor_nat _ _ (UInt8.toNat_lt b) h1]
  rw [UInt8.toNat_ofNat', Nat.mod_eq_of_lt h2]
theorem flip_row (p : Pfx) (i : Nat) (hi : i < 128) : (encP p).set (1 + i / 8) (.int .u8 ((flipB p.a.bs i).toNat : Int)) = encP (flipP p i) := by
  have hl := p.a.len
  unfold encP flipP flipL
  rw [List.set_append_left _ _ (by simp [encB_length]; omega), Nat.add_comm 1, List.set_cons_succ]
  simp [encB, u8v, List.map_set, flipB]

set_option maxRecDepth 100000 in
set_option maxHeartbeats 400000 in
theorem half_any (p : Pfx) (i : Nat) (w : World) (hi : p.bits = i + 1) (h1 : i < 128) : Calls Tryd.prog 30 #[.agg (encP p).toArray] w fun e w' => e = .returned (.agg (encP (flipP p i)).toArray) ∧ Below w.heap.size w w' := by
  have cb := fun W => bit_any i W (by omega)
  have hc := encP_byte p (i / 8) (by omega)
  have hx : bits BinOp.xor IntKind.u8 ((p.a.bs[i / 8]?.getD 0).toNat : Int) (128 / 2 ^ (i % 8)) = ((flipB p.a.bs i).toNat : Int) := xor_u8 _ _
  have hrow : ∀ d os, rowAt ((gw ((w.alloc (.cells (encP p).toArray 35)).alloc (.cells (encP pfx0).toArray 35)) d os).setCell ⟨w.heap.size, 1 + i / 8, none⟩ (.int .u8 ((flipB p.a.bs i).toNat : Int))) w.heap.size 0 18 = some (encP (flipP p i)) := fun d os => by
    rw [rowAt_setCell_in _ _ _ _ _ _ (encP p) (by simp [go_sem]) (by omega) (by omega), Nat.sub_zero, flip_row p i h1]
  generalize flipP p i = q at hrow ⊢
  generalize flipB p.a.bs i = fb at hx hrow
  go_enter Tryd.func30, Tryd.ntmps30
  go_wp2
  refine wp_region_tail 16 (by kernel_rfl) (by kernel_rfl) ?_
  simp only [List.take_succ_cons, List.take_zero, List.drop_succ_cons, List.drop_zero]
  repeat (go_big_quiet_step ((go_at_call 42; exact Calls.in_gw_same (cb _))))
  refine wpQuiet_nil ?_
  intro d os
  go_wp2
  refine bodyPost_agg (b := w.heap.size + 1) aggP Tryd.results30 (by rfl) (by rfl) (encP q) (by simp [go_sem]) ?_
  refine ⟨rfl, ?_⟩
  refine below_setCells (Below.setCell ?_ (by simp) _) _ _ _ (by simp)
  repeat (first | with_reducible exact Below.refl _ _ | with_reducible assumption | with_reducible refine below_gw' ?_ (by simp [gw_size] <;> omega) _ _ | with_reducible refine Below.alloc ?_ (by simp [gw_size] <;> omega) _ | with_reducible refine Below.drew ?_ | with_reducible refine below_setCells ?_ _ _ _ (by simp [gw_size] <;> omega))

set_option maxRecDepth 100000 in
set_option maxHeartbeats 400000 in
theorem up_any (p : Pfx) (w : World) (hg : Glob w) (h0 : 1 ≤ p.bits) (h1 : p.bits ≤ 128) : Calls Tryd.prog 36 #[.agg (encP p).toArray] w fun e w' => e = .returned (.agg (encP (ofP p.a (p.bits - 1)).1).toArray) ∧ Below w.heap.size w w' := by
  have co := fun o1 o2 => Calls.to_gw (of_any p.a (p.bits - 1) _ ((hg.alloc o1).alloc o2))
  generalize (ofP p.a (p.bits - 1)).1 = q at co ⊢
  generalize (ofP p.a (p.bits - 1)).2 = e at co
  go_enter Tryd.func36, Tryd.ntmps36
  go_wp2_with ((go_at_call 50; refine (co _ _).mono ?_; rintro e w' ⟨rfl, d, os, rfl⟩))
  refine bodyPost_agg (b := w.heap.size + 1) aggP Tryd.results36 (by rfl) (by rfl) (encP q) (by simp [go_sem]) ?_
  (refine ⟨rfl, ?_⟩; repeat (first | with_reducible exact Below.refl _ _ | with_reducible assumption | with_reducible refine below_gw' ?_ (by simp [gw_size] <;> omega) _ _ | with_reducible refine Below.alloc ?_ (by simp [gw_size] <;> omega) _ | with_reducible refine Below.drew ?_ | with_reducible refine below_setCells ?_ _ _ _ (by simp [gw_size] <;> omega)))

end Go.Proofs.YtfdebdbmdbmbbaaDoor
