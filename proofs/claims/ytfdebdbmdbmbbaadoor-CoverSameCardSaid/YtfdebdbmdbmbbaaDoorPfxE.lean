/- The walks of cmp.Compare, cmp.Or, bytes.Compare, prefix.Compare. -/
import Derived.Test.YtfdebdbmdbmbbaaDoorPfxD
import Derived.StillTailTactics
import Derived.Lib.Bytealg
import Derived.Lib.BytesEntry
import Derived.Laws.Externs
set_option linter.unusedSimpArgs false
set_option linter.unusedVariables false
namespace Go.Proofs.YtfdebdbmdbmbbaaDoor
open Go.RowKit

set_option maxHeartbeats 400000 in
theorem isNaN_any (n : Int) (w : World) : Calls Tryd.prog 61 #[.int .i64 n] w fun e w' => e = .returned (.bool false) ∧ w' = w := by
  have h : (n != n) = false := by simp
  go_enter Tryd.func61, Tryd.ntmps61
  go_wp2
  go_ret
  exact ⟨rfl, rfl⟩

set_option maxHeartbeats 400000 in
theorem cmpCompare_any (a b : Int) (w : World) : Calls Tryd.prog 48 #[.int .i64 a, .int .i64 b] w fun e w' => e = .returned (.int .i64 (cmpI a b)) ∧ w' = w := by
  have hc : cmpI a b = if a < b then -1 else if b < a then 1 else 0 := rfl
  by_cases h1 : a < b
  · rw [hc, if_pos h1]
    go_enter Tryd.func48, Tryd.ntmps48
    go_wp2_with ((go_at_call 61; refine (isNaN_any _ _).mono ?_; rintro e w' ⟨rfl, rfl⟩))
    go_ret
    exact ⟨rfl, rfl⟩
  · by_cases h2 : b < a
    · rw [hc, if_neg h1, if_pos h2]
      go_enter Tryd.func48, Tryd.ntmps48
      go_wp2_with ((go_at_call 61; refine (isNaN_any _ _).mono ?_; rintro e w' ⟨rfl, rfl⟩))
      go_ret
      exact ⟨rfl, rfl⟩
    · rw [hc, if_neg h1, if_neg h2]
      go_enter Tryd.func48, Tryd.ntmps48
      go_wp2_with ((go_at_call 61; refine (isNaN_any _ _).mono ?_; rintro e w' ⟨rfl, rfl⟩))
      go_ret
      exact ⟨rfl, rfl⟩

theorem cmpB_compareBytes : ∀ l m : List UInt8, cmpB l m = Lib.compareBytes l m
  | [], [] => rfl
  | [], _ :: _ => rfl
  | _ :: _, [] => rfl
  | a :: l, b :: m => by simp only [cmpB, Lib.compareBytes, cmpB_compareBytes l m]

theorem run_loadBytes_row {P : Program} (w : World) (b o n : Nat) (l : List UInt8) (hl : l.length = n) (h : rowAt w b o n = some (encB l)) : (Extern.Bytes.loadBytes ⟨b, o, none⟩ n .empty).run P w = .ok ⟨l.toArray⟩ w := by
  have h2 := (rowAt_some h).2
  have e := Lib.run_loadBytesX (P := P) w (l.map fun x => (x.toNat : Int)) ⟨b, o, none⟩ .empty (fun j x hj => by
    have hadd : (⟨b, o, none⟩ : Addr).add j = ⟨b, o + j, none⟩ := by unfold Addr.add; split <;> simp_all
    rw [hadd]
    refine h2 j _ ?_
    rw [List.getElem?_map] at hj
    cases hq : l[j]? with
    | none => rw [hq] at hj; simp at hj
    | some y => rw [hq] at hj; simp at hj; subst hj; simp [encB, u8v, hq])
  rw [List.length_map, hl] at e
  rw [e]
  congr 2
  simp only [Lib.bytesOf, List.map_map]
  rw [show List.map ((fun n : Int => UInt8.ofNat n.toNat) ∘ fun x : UInt8 => (x.toNat : Int)) l = l from by
    conv => rhs; rw [← List.map_id l]
    exact List.map_congr_left fun x _ => by simp]
  show #[] ++ l.toArray = l.toArray
  simp

theorem run_bytealgCompare {P : Program} (w : World) (b1 o1 c1 b2 o2 c2 : Nat) (l m : List UInt8) (hl : l.length = 16) (hm : m.length = 16) (h1 : rowAt w b1 o1 16 = some (encB l)) (h2 : rowAt w b2 o2 16 = some (encB m)) :
    (Extern.BytealgCompare.compare #[.slice (some ⟨b1, o1, none⟩) 16 c1, .slice (some ⟨b2, o2, none⟩) 16 c2]).run P w = .ok (.int .i64 (cmpB l m)) w := by
  change Sem.run P (do pure (goInt (Extern.BytealgCompare.cmp (← Extern.Bytes.bytesOf (.slice (some ⟨b1, o1, none⟩) 16 c1)) (← Extern.Bytes.bytesOf (.slice (some ⟨b2, o2, none⟩) 16 c2))))) w = _
  simp only [Extern.Bytes.bytesOf, Sem.run_bind, run_loadBytes_row w b1 o1 16 l hl h1, run_loadBytes_row w b2 o2 16 m hm h2, Sem.run_pure, Result.andThen_ok]
  rw [Lib.cmp_eq, cmpB_compareBytes]
  rfl

set_option maxRecDepth 100000 in
set_option maxHeartbeats 400000 in
theorem bytesCompare_any (w : World) (b1 o1 c1 b2 o2 c2 : Nat) (l m : List UInt8) (hl : l.length = 16) (hm : m.length = 16) (h1 : rowAt w b1 o1 16 = some (encB l)) (h2 : rowAt w b2 o2 16 = some (encB m)) :
    Calls Tryd.prog 49 #[.slice (some ⟨b1, o1, none⟩) 16 c1, .slice (some ⟨b2, o2, none⟩) 16 c2] w fun e w' => e = .returned (.int .i64 (cmpB l m)) ∧ w' = w := by
  have hr := run_bytealgCompare (P := Tryd.prog) w b1 o1 c1 b2 o2 c2 l m hl hm h1 h2
  generalize cmpB l m = r at hr ⊢
  have hx := run_callFunc_extern (P := Tryd.prog) (f := 62) Tryd.func62 (by kernel_rfl) (by kernel_rfl) (by kernel_rfl) (e := Extern.BytealgCompare.compare) (by kernel_rfl) #[.slice (some ⟨b1, o1, none⟩) 16 c1, .slice (some ⟨b2, o2, none⟩) 16 c2] w
  rw [hr] at hx
  simp only [Result.andThen_ok] at hx
  clear hr h1 h2 hl hm
  go_enter Tryd.func49, Tryd.ntmps49
  go_wp2
  go_ret
  exact ⟨rfl, rfl⟩

set_option maxRecDepth 100000 in
set_option maxHeartbeats 400000 in
theorem or3_any (w : World) (b : Nat) (x y z : Int) (h0 : w.cell? ⟨b, 0, none⟩ = some (.int .i64 x)) (h1 : w.cell? ⟨b, 1, none⟩ = some (.int .i64 y)) (h2 : w.cell? ⟨b, 2, none⟩ = some (.int .i64 z)) :
    Calls Tryd.prog 47 #[.slice (some ⟨b, 0, none⟩) 3 3] w fun e w' => e = .returned (.int .i64 (orI x (orI y z))) ∧ w' = w := by
  have hcell : ∀ k : Nat, k < 3 → w.cell? ⟨b, k, none⟩ = some (.int .i64 ([x, y, z].getD k 0)) := fun k hk => by
    match k, hk with
    | 0, _ => exact h0
    | 1, _ => exact h1
    | 2, _ => exact h2
  have hor : ∀ k : Nat, k < 3 → (∀ j, j < k → [x, y, z].getD j 0 = 0) → [x, y, z].getD k 0 ≠ 0 → orI x (orI y z) = [x, y, z].getD k 0 := fun k hk hz hne => by
    match k, hk with
    | 0, _ => unfold orI; rw [if_neg (by simpa using hne)]; rfl
    | 1, _ => unfold orI; rw [if_pos (by simpa using hz 0 (by omega)), if_neg (by simpa using hne)]; rfl
    | 2, _ => unfold orI; rw [if_pos (by simpa using hz 0 (by omega)), if_pos (by simpa using hz 1 (by omega))]; rfl
  have hor0 : (∀ j, j < 3 → [x, y, z].getD j 0 = 0) → orI x (orI y z) = 0 := fun hz => by
    unfold orI; rw [if_pos (by simpa using hz 0 (by omega)), if_pos (by simpa using hz 1 (by omega))]; simpa using hz 2 (by omega)
  generalize orI x (orI y z) = r at hor hor0 ⊢
  generalize [x, y, z] = l at hcell hor hor0
  clear h0 h1 h2
  have Hc := Lib.hid hcell
  have Ho := Lib.hid hor
  have Hz := Lib.hid hor0
  clear hcell hor hor0
  go_enter Tryd.func47, Tryd.ntmps47
  go_wp2
  go_loop [5, 8] (fun _ c => ∃ k : Nat, k ≤ 3 ∧ c = .int .i64 k ∧ ∀ j, j < k → l.getD j 0 = 0) (fun _ c => 3 - (intOf c).toNat)
  case atStart => exact ⟨0, by omega, rfl, fun j hj => by omega⟩
  case round =>
    obtain ⟨k, hk, rfl, hp⟩ := hrel
    have Hp := Lib.hid hp
    clear hp
    by_cases hlt : k < 3
    · have hc := Hc.out k hlt
      obtain ⟨v, hv⟩ : ∃ v, v = l.getD k 0 := ⟨_, rfl⟩
      rw [← hv] at hc
      have Hv := Lib.hid hv
      clear hv
      by_cases hv0 : v = 0
      · subst hv0
        go_wp2
        go_round
        case rel => exact ⟨k + 1, by omega, by go_num, fun j hj => by
          rcases Nat.lt_or_ge j k with h | h
          · exact Hp.out j h
          · rw [show j = k by omega]; exact Hv.out.symm⟩
        case measure => simp [intOf]; omega
      · have hb : (v != 0) = true := by simpa using hv0
        have Hb := Lib.hid hv0
        clear hv0
        go_wp2
        go_ret
        exact ⟨ret_int (by rw [Ho.out k hlt Hp.out (by rw [← Hv.out]; exact Hb.out)]; exact Hv.out), rfl⟩
    · obtain rfl : k = 3 := by omega
      go_wp2
      go_ret
      exact ⟨ret_int (Hz.out Hp.out).symm, rfl⟩

set_option maxRecDepth 100000 in
set_option maxHeartbeats 400000 in
/-- .. with the world behind it: three blocks more, one draw. -/
theorem compare_exact (p q : Pfx) (w : World) :
    Calls Tryd.prog 35 #[.agg (encP p).toArray, .agg (encP q).toArray] w fun e w' => e = .returned (.int .i64 (compareP p q)) ∧ ∃ o1 o2 o3, ((w.alloc o1).alloc o2).drew.alloc o3 = w' := by
  have hcp : compareP p q = orI (cmpI p.a.ver q.a.ver) (orI (cmpB p.a.bs q.a.bs) (cmpI p.bits q.bits)) := rfl
  have c1 := fun W => cmpCompare_any p.a.ver q.a.ver W
  have c3 := fun W => cmpCompare_any p.bits q.bits W
  have c2 := fun W b1 o1 c1 b2 o2 c2 h1 h2 => bytesCompare_any W b1 o1 c1 b2 o2 c2 p.a.bs q.a.bs p.a.len q.a.len h1 h2
  rw [hcp]
  generalize cmpI p.a.ver q.a.ver = x at c1 ⊢
  generalize cmpB p.a.bs q.a.bs = y at c2 ⊢
  generalize cmpI p.bits q.bits = z at c3 ⊢
  have cO := fun W b h0 h1 h2 => or3_any W b x y z h0 h1 h2
  generalize orI x (orI y z) = r at cO ⊢
  clear hcp
  go_enter Tryd.func35, Tryd.ntmps35
  go_wp2
  refine wp_still_tail 19 (by kernel_rfl) (by kernel_rfl) ?_
  simp only [List.take_succ_cons, List.take_zero, List.drop_succ_cons, List.drop_zero]
  repeat still_step
  refine wpStill_step (fun K hK => ?_)
  go_simp
  refine ⟨_, c1 _, hK _ ?_⟩
  clear hK K
  repeat still_step
  refine wpStill_step (fun K hK => ?_)
  go_simp
  refine ⟨_, c2 _ _ _ _ _ _ _ (by simp [go_sem]) (by simp [go_sem]), hK _ ?_⟩
  clear hK K
  repeat still_step
  refine wpStill_step (fun K hK => ?_)
  go_simp
  refine ⟨_, c3 _, hK _ ?_⟩
  clear hK K
  refine wpStill_nil ?_
  go_wp2_with ((go_at_call 47; refine (cO _ _ (by go_simp) (by go_simp) (by go_simp)).mono ?_; rintro e w' ⟨rfl, rfl⟩))
  go_ret
  exact ⟨rfl, _, _, _, rfl⟩

end Go.Proofs.YtfdebdbmdbmbbaaDoor
