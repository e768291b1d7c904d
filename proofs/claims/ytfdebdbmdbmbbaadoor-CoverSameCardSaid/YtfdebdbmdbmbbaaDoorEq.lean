/- Comparisons of addresses and prefixes as whole values. -/
import Derived.Test.YtfdebdbmdbmbbaaDoorTypes
import Derived.Stop.BytesEq
set_option linter.unusedSimpArgs false
set_option linter.unusedVariables false
namespace Go.Proofs.YtfdebdbmdbmbbaaDoor
open Go.RowKit

theorem encB_cell (l : List UInt8) : encB l = l.map Extern.Stop.cell := rfl

theorem eqIn_B (d : Nat) (w : World) (x y : List UInt8) (hx : x.length = 16) (hy : y.length = 16) :
    (Op.equalIn (d + 2) 31 (.agg (encB x).toArray) (.agg (encB y).toArray)).run Tryd.prog w = .ok (x == y) w :=
  run_equalIn_bytes w d 31 5 16 Tryd.underlying31 Tryd.underlying5 (fun _ => by kernel_rfl) x y hx hy

theorem part_int {P : Program} {t : TypeId} {k : IntKind} (h : P.underlying t = some (.int k)) (w : World) (cs : Array Value) (o : Nat) (v : Value) (hc : cs[o]? = some v) : (part t cs o).run P w = .ok v w := by
  simp [part, isAgg, run_underlying h, hc]
theorem part_agg {P : Program} {t : TypeId} {n : Nat} (A : AggTy P t n) (w : World) (cs : Array Value) (o : Nat) (l : List Value) (hc : cutRow cs o n = some l) : (part t cs o).run P w = .ok (.agg l.toArray) w := by
  unfold cutRow at hc
  split at hc
  · simp only [Option.some.injEq] at hc
    simp only [part, A.agg, A.size, Sem.run_bind, Result.andThen_ok, if_true, Sem.run_pure, Result.ok.injEq, Value.agg.injEq, and_true]
    rw [← hc]
    apply Array.ext'
    simp [List.extract_eq_take_drop]
  · cases hc

/-- Comparing field by field, of fields by name, type and place. -/
def eqTr (d : Nat) (xs ys : Array Value) : List (String × TypeId × Nat) → Sem Bool
  | [] => pure true
  | f :: fs =>
    if f.1 ≠ "_" then do
      let a ← part f.2.1 xs f.2.2
      let b ← part f.2.1 ys f.2.2
      let r ← Op.equalIn d f.2.1 a b
      if (!r) = true then pure false else eqTr d xs ys fs
    else eqTr d xs ys fs
theorem eqFields_tr (d : Nat) (xs ys : Array Value) : ∀ fs : List Field, Op.eqFields d xs ys fs = eqTr d xs ys (fs.map fun f => (f.name, f.type, f.offset))
  | [] => rfl
  | f :: fs => by
    simp only [Op.eqFields, List.map_cons, eqTr, eqFields_tr d xs ys fs]
theorem eqTr_cons {P : Program} {w : World} {d : Nat} {xs ys : Array Value} {n : String} {t : TypeId} {o : Nat} {fs : List (String × TypeId × Nat)} {a b : Value} {r : Bool} (hn : n ≠ "_")
    (ha : (part t xs o).run P w = .ok a w) (hb : (part t ys o).run P w = .ok b w) (he : (Op.equalIn d t a b).run P w = .ok r w) :
    (eqTr d xs ys ((n, t, o) :: fs)).run P w = if r = true then (eqTr d xs ys fs).run P w else .ok false w := by
  rw [eqTr]
  simp only [ne_eq, hn, not_false_eq_true, if_true, Sem.run_bind, ha, hb, he, Result.andThen_ok]
  cases r <;> simp
theorem eqTr_nil {P : Program} {w : World} {d : Nat} {xs ys : Array Value} : (eqTr d xs ys []).run P w = .ok true w := by simp [eqTr]

theorem tr_A : (Tryd.prog.fieldsOf 33).toList.map (fun f => (f.name, f.type, f.offset)) = [("Version", 3, 0), ("Bytes", 31, 1)] := by kernel_rfl
theorem tr_P : (Tryd.prog.fieldsOf 35).toList.map (fun f => (f.name, f.type, f.offset)) = [("Addr", 33, 0), ("Bits", 3, 17)] := by kernel_rfl
theorem stru_A : Tryd.prog.underlying 33 = some (.struct (Tryd.prog.fieldsOf 33)) := by kernel_rfl
theorem stru_P : Tryd.prog.underlying 35 = some (.struct (Tryd.prog.fieldsOf 35)) := by kernel_rfl

theorem Adr.eq_iff (a b : Adr) : a = b ↔ a.ver = b.ver ∧ a.bs = b.bs := by
  cases a; cases b; simp
theorem Pfx.eq_iff (p q : Pfx) : p = q ↔ p.a = q.a ∧ p.bits = q.bits := by
  cases p; cases q; simp

theorem eqIn_A (d : Nat) (w : World) (a b : Adr) : (Op.equalIn (d + 3) 33 (.agg (encA a).toArray) (.agg (encA b).toArray)).run Tryd.prog w = .ok (decide (a = b)) w := by
  rw [run_equalIn_agg w (d + 2) _ _ _ stru_A (by kernel_rfl), eqFields_tr, tr_A]
  rw [eqTr_cons (by decide) (part_int Tryd.underlying3 w _ 0 _ rfl) (part_int Tryd.underlying3 w _ 0 _ rfl) (run_equalIn_int w (d + 1) _ .i64 .i64 _ _ Tryd.underlying3)]
  rw [eqTr_cons (by decide) (part_agg aggB w _ 1 _ (cut_A_B a)) (part_agg aggB w _ 1 _ (cut_A_B b)) (eqIn_B d w _ _ a.len b.len), eqTr_nil]
  by_cases h1 : a.ver = b.ver
  · by_cases h2 : a.bs = b.bs
    · simp [h1, h2, Adr.eq_iff]
    · simp [h1, h2, Adr.eq_iff]
  · simp [h1, Adr.eq_iff]
theorem eqIn_P (d : Nat) (w : World) (p q : Pfx) : (Op.equalIn (d + 4) 35 (.agg (encP p).toArray) (.agg (encP q).toArray)).run Tryd.prog w = .ok (decide (p = q)) w := by
  rw [run_equalIn_agg w (d + 3) _ _ _ stru_P (by kernel_rfl), eqFields_tr, tr_P]
  rw [eqTr_cons (by decide) (part_agg aggA w _ 0 _ (cut_P_A p)) (part_agg aggA w _ 0 _ (cut_P_A q)) (eqIn_A d w p.a q.a)]
  rw [eqTr_cons (by decide) (part_int Tryd.underlying3 w _ 17 _ (by simpa using get_P_17 p)) (part_int Tryd.underlying3 w _ 17 _ (by simpa using get_P_17 q)) (run_equalIn_int w (d + 2) _ .i64 .i64 _ _ Tryd.underlying3), eqTr_nil]
  by_cases h1 : p.a = q.a
  · by_cases h2 : p.bits = q.bits
    · simp [h1, h2, Pfx.eq_iff]
    · simp [h1, h2, Pfx.eq_iff]
  · simp [h1, Pfx.eq_iff]

@[go_sem] theorem egB : Tryd.prog.eqGuardType Tryd.prog.depth 31 = false := by kernel_rfl
@[go_sem] theorem egA : Tryd.prog.eqGuardType Tryd.prog.depth 33 = false := by kernel_rfl
@[go_sem] theorem egP : Tryd.prog.eqGuardType Tryd.prog.depth 35 = false := by kernel_rfl
@[go_sem ↓] theorem eqlB (w : World) (x y : List UInt8) (hx : x.length = 16) (hy : y.length = 16) : (binOp .eql 31 (.agg (encB x).toArray) (.agg (encB y).toArray)).run Tryd.prog w = .ok (.bool (decide (x = y))) w := by
  rw [run_eql_struct, eqIn_B 9998 w x y hx hy]
  simp only [Result.andThen_ok]
  by_cases h : x = y <;> simp [h]
@[go_sem ↓] theorem neqB (w : World) (x y : List UInt8) (hx : x.length = 16) (hy : y.length = 16) : (binOp .neq 31 (.agg (encB x).toArray) (.agg (encB y).toArray)).run Tryd.prog w = .ok (.bool (!decide (x = y))) w := by
  rw [run_neq_struct, eqIn_B 9998 w x y hx hy]
  simp only [Result.andThen_ok]
  by_cases h : x = y <;> simp [h]
@[go_sem ↓] theorem eqlA (w : World) (x y : Adr) : (binOp .eql 33 (.agg (encA x).toArray) (.agg (encA y).toArray)).run Tryd.prog w = .ok (.bool (decide (x = y))) w := by
  rw [run_eql_struct, eqIn_A 9997 w x y]; rfl
@[go_sem ↓] theorem neqA (w : World) (x y : Adr) : (binOp .neq 33 (.agg (encA x).toArray) (.agg (encA y).toArray)).run Tryd.prog w = .ok (.bool (!decide (x = y))) w := by
  rw [run_neq_struct, eqIn_A 9997 w x y]; rfl
@[go_sem ↓] theorem eqlP (w : World) (x y : Pfx) : (binOp .eql 35 (.agg (encP x).toArray) (.agg (encP y).toArray)).run Tryd.prog w = .ok (.bool (decide (x = y))) w := by
  rw [run_eql_struct, eqIn_P 9996 w x y]; rfl
@[go_sem ↓] theorem neqP (w : World) (x y : Pfx) : (binOp .neq 35 (.agg (encP x).toArray) (.agg (encP y).toArray)).run Tryd.prog w = .ok (.bool (!decide (x = y))) w := by
  rw [run_neq_struct, eqIn_P 9996 w x y]; rfl

end Go.Proofs.YtfdebdbmdbmbbaaDoor
