/- The loads, stores and comparisons of addresses and prefixes as whole values. -/
import Derived.Test.YtfdebdbmdbmbbaaDoorBase
import Derived.Test.YtfdebdbmdbmbbaaDoorSlice
import Derived.Test.YtfdebdbmdbmbbaaDoorProg
import Derived.KernelRfl
set_option linter.unusedSimpArgs false
set_option linter.unusedVariables false
namespace Go.Proofs.YtfdebdbmdbmbbaaDoor
open Go.RowKit

/-GEN
T B|[16]uint8|16|encB (List.replicate 16 0)
T A|junctionbox/api.Addr|17|encA adr0
T P|junctionbox/api.Prefix|18|encP pfx0
B P|junctionbox/api.Prefix|0:17,1:1
S P|[]api.Prefix|junctionbox/api.Prefix|18|32
-/
theorem aggB : AggTy Tryd.prog 31 16 := ⟨fun _ => by kernel_rfl, fun _ => by kernel_rfl⟩
@[go_sem ↓] theorem ldB (ev : Operand → Value) (d : Option Tmp) (x : Operand) (ty : TypeId) (pos : String) (af : Array Edge) (g : Option (Nat × Bool)) (w : World)
    (hp : ptrPlain (ev x) = true) (h : (rowAt w (ptrB (ev x)) (ptrO (ev x)) 16).isSome = true) :
    (execOp ev ⟨d, .load 31 x, ty, pos, af, g⟩).run Tryd.prog w = .ok (.value (.agg (gotRow w (ptrB (ev x)) (ptrO (ev x)) 16))) w := run_load_rowAt aggB ev d x ty pos af g w hp h
@[go_sem ↓] theorem stB (ev : Operand → Value) (d : Option Tmp) (x y : Operand) (ty : TypeId) (pos : String) (af : Array Edge) (g : Option (Nat × Bool)) (w : World)
    (hp : ptrPlain (ev x) = true) (hn : (aggL (ev y)).length = 16) (h1 : allOne (aggL (ev y)) = true) (h : (rowAt w (ptrB (ev x)) (ptrO (ev x)) 16).isSome = true) (hf : noFr w (ptrB (ev x)) = true) :
    (execOp ev ⟨d, .store 31 x y, ty, pos, af, g⟩).run Tryd.prog w = .ok .skip (w.setCells (ptrB (ev x)) (ptrO (ev x)) (aggL (ev y))) := run_store_rowAt aggB ev d x y ty pos af g w hp hn (by decide) h1 h hf
theorem zvB (w : World) : (zeroValue 31).run Tryd.prog w = .ok (.agg (encB (List.replicate 16 0)).toArray) w := by kernel_rfl
@[go_sem ↓] theorem bzB (ev : Operand → Value) (d : Option Tmp) (ty : TypeId) (pos : String) (af : Array Edge) (g : Option (Nat × Bool)) (w : World) :
    (execOp ev ⟨d, .build 31 #[], ty, pos, af, g⟩).run Tryd.prog w = .ok (.value (.agg (encB (List.replicate 16 0)).toArray)) w := by kernel_rfl
@[go_sem ↓] theorem alB (ev : Operand → Value) (d : Option Tmp) (ty : TypeId) (pos : String) (af : Array Edge) (g : Option (Nat × Bool)) (w : World) :
    (execOp ev ⟨d, .alloc 31, ty, pos, af, g⟩).run Tryd.prog w = .ok (.value (.pointer (some ⟨w.heap.size, 0, none⟩))) (w.alloc (.cells (encB (List.replicate 16 0)).toArray 31)) := by kernel_rfl
theorem aggA : AggTy Tryd.prog 33 17 := ⟨fun _ => by kernel_rfl, fun _ => by kernel_rfl⟩
@[go_sem ↓] theorem ldA (ev : Operand → Value) (d : Option Tmp) (x : Operand) (ty : TypeId) (pos : String) (af : Array Edge) (g : Option (Nat × Bool)) (w : World)
    (hp : ptrPlain (ev x) = true) (h : (rowAt w (ptrB (ev x)) (ptrO (ev x)) 17).isSome = true) :
    (execOp ev ⟨d, .load 33 x, ty, pos, af, g⟩).run Tryd.prog w = .ok (.value (.agg (gotRow w (ptrB (ev x)) (ptrO (ev x)) 17))) w := run_load_rowAt aggA ev d x ty pos af g w hp h
@[go_sem ↓] theorem stA (ev : Operand → Value) (d : Option Tmp) (x y : Operand) (ty : TypeId) (pos : String) (af : Array Edge) (g : Option (Nat × Bool)) (w : World)
    (hp : ptrPlain (ev x) = true) (hn : (aggL (ev y)).length = 17) (h1 : allOne (aggL (ev y)) = true) (h : (rowAt w (ptrB (ev x)) (ptrO (ev x)) 17).isSome = true) (hf : noFr w (ptrB (ev x)) = true) :
    (execOp ev ⟨d, .store 33 x y, ty, pos, af, g⟩).run Tryd.prog w = .ok .skip (w.setCells (ptrB (ev x)) (ptrO (ev x)) (aggL (ev y))) := run_store_rowAt aggA ev d x y ty pos af g w hp hn (by decide) h1 h hf
theorem zvA (w : World) : (zeroValue 33).run Tryd.prog w = .ok (.agg (encA adr0).toArray) w := by kernel_rfl
@[go_sem ↓] theorem bzA (ev : Operand → Value) (d : Option Tmp) (ty : TypeId) (pos : String) (af : Array Edge) (g : Option (Nat × Bool)) (w : World) :
    (execOp ev ⟨d, .build 33 #[], ty, pos, af, g⟩).run Tryd.prog w = .ok (.value (.agg (encA adr0).toArray)) w := by kernel_rfl
@[go_sem ↓] theorem alA (ev : Operand → Value) (d : Option Tmp) (ty : TypeId) (pos : String) (af : Array Edge) (g : Option (Nat × Bool)) (w : World) :
    (execOp ev ⟨d, .alloc 33, ty, pos, af, g⟩).run Tryd.prog w = .ok (.value (.pointer (some ⟨w.heap.size, 0, none⟩))) (w.alloc (.cells (encA adr0).toArray 33)) := by kernel_rfl
theorem aggP : AggTy Tryd.prog 35 18 := ⟨fun _ => by kernel_rfl, fun _ => by kernel_rfl⟩
@[go_sem ↓] theorem ldP (ev : Operand → Value) (d : Option Tmp) (x : Operand) (ty : TypeId) (pos : String) (af : Array Edge) (g : Option (Nat × Bool)) (w : World)
    (hp : ptrPlain (ev x) = true) (h : (rowAt w (ptrB (ev x)) (ptrO (ev x)) 18).isSome = true) :
    (execOp ev ⟨d, .load 35 x, ty, pos, af, g⟩).run Tryd.prog w = .ok (.value (.agg (gotRow w (ptrB (ev x)) (ptrO (ev x)) 18))) w := run_load_rowAt aggP ev d x ty pos af g w hp h
@[go_sem ↓] theorem stP (ev : Operand → Value) (d : Option Tmp) (x y : Operand) (ty : TypeId) (pos : String) (af : Array Edge) (g : Option (Nat × Bool)) (w : World)
    (hp : ptrPlain (ev x) = true) (hn : (aggL (ev y)).length = 18) (h1 : allOne (aggL (ev y)) = true) (h : (rowAt w (ptrB (ev x)) (ptrO (ev x)) 18).isSome = true) (hf : noFr w (ptrB (ev x)) = true) :
    (execOp ev ⟨d, .store 35 x y, ty, pos, af, g⟩).run Tryd.prog w = .ok .skip (w.setCells (ptrB (ev x)) (ptrO (ev x)) (aggL (ev y))) := run_store_rowAt aggP ev d x y ty pos af g w hp hn (by decide) h1 h hf
theorem zvP (w : World) : (zeroValue 35).run Tryd.prog w = .ok (.agg (encP pfx0).toArray) w := by kernel_rfl
@[go_sem ↓] theorem bzP (ev : Operand → Value) (d : Option Tmp) (ty : TypeId) (pos : String) (af : Array Edge) (g : Option (Nat × Bool)) (w : World) :
    (execOp ev ⟨d, .build 35 #[], ty, pos, af, g⟩).run Tryd.prog w = .ok (.value (.agg (encP pfx0).toArray)) w := by kernel_rfl
@[go_sem ↓] theorem alP (ev : Operand → Value) (d : Option Tmp) (ty : TypeId) (pos : String) (af : Array Edge) (g : Option (Nat × Bool)) (w : World) :
    (execOp ev ⟨d, .alloc 35, ty, pos, af, g⟩).run Tryd.prog w = .ok (.value (.pointer (some ⟨w.heap.size, 0, none⟩))) (w.alloc (.cells (encP pfx0).toArray 35)) := by kernel_rfl
theorem bldkP (w : World) (c0_0 c0_1 c0_2 c0_3 c0_4 c0_5 c0_6 c0_7 c0_8 c0_9 c0_10 c0_11 c0_12 c0_13 c0_14 c0_15 c0_16 v1 : Value) (o1 : isOne v1 = true) :
    (Instr.build 35 #[(0, .agg #[c0_0, c0_1, c0_2, c0_3, c0_4, c0_5, c0_6, c0_7, c0_8, c0_9, c0_10, c0_11, c0_12, c0_13, c0_14, c0_15, c0_16]), (1, v1)]).run Tryd.prog w = .ok (.agg #[c0_0, c0_1, c0_2, c0_3, c0_4, c0_5, c0_6, c0_7, c0_8, c0_9, c0_10, c0_11, c0_12, c0_13, c0_14, c0_15, c0_16, v1]) w := by
  obtain ⟨k1, rfl⟩ | ⟨k1, rfl⟩ | ⟨k1, q1, r1, rfl⟩ := isOne_cases o1
  all_goals kernel_rfl
@[go_sem ↓] theorem bldP (ev : Operand → Value) (d : Option Tmp) (x0 x1 : Operand) (ty : TypeId) (pos : String) (af : Array Edge) (g : Option (Nat × Bool)) (w : World) (h0 : (aggL (ev x0)).length = 17) (h1 : isOne (ev x1) = true) :
    (execOp ev ⟨d, .build 35 #[(0, x0), (1, x1)], ty, pos, af, g⟩).run Tryd.prog w = .ok (.value (.agg (aggL (ev x0) ++ [ev x1]).toArray)) w := by
  obtain ⟨l0, e0, k0⟩ := aggL_some (by omega) h0
  obtain ⟨c0_0, c0_1, c0_2, c0_3, c0_4, c0_5, c0_6, c0_7, c0_8, c0_9, c0_10, c0_11, c0_12, c0_13, c0_14, c0_15, c0_16, rfl⟩ : ∃ c0_0 c0_1 c0_2 c0_3 c0_4 c0_5 c0_6 c0_7 c0_8 c0_9 c0_10 c0_11 c0_12 c0_13 c0_14 c0_15 c0_16 : Value, l0 = [c0_0, c0_1, c0_2, c0_3, c0_4, c0_5, c0_6, c0_7, c0_8, c0_9, c0_10, c0_11, c0_12, c0_13, c0_14, c0_15, c0_16] := by
    match l0, k0 with
    | [c0_0, c0_1, c0_2, c0_3, c0_4, c0_5, c0_6, c0_7, c0_8, c0_9, c0_10, c0_11, c0_12, c0_13, c0_14, c0_15, c0_16], _ => exact ⟨c0_0, c0_1, c0_2, c0_3, c0_4, c0_5, c0_6, c0_7, c0_8, c0_9, c0_10, c0_11, c0_12, c0_13, c0_14, c0_15, c0_16, rfl⟩
  obtain ⟨v1, e1, o1⟩ : ∃ v, ev x1 = v ∧ isOne v = true := ⟨_, rfl, h1⟩
  have hb : (Instr.build 35 #[(0, .agg #[c0_0, c0_1, c0_2, c0_3, c0_4, c0_5, c0_6, c0_7, c0_8, c0_9, c0_10, c0_11, c0_12, c0_13, c0_14, c0_15, c0_16]), (1, v1)]).run Tryd.prog w = .ok (.agg #[c0_0, c0_1, c0_2, c0_3, c0_4, c0_5, c0_6, c0_7, c0_8, c0_9, c0_10, c0_11, c0_12, c0_13, c0_14, c0_15, c0_16, v1]) w := by
    exact bldkP w c0_0 c0_1 c0_2 c0_3 c0_4 c0_5 c0_6 c0_7 c0_8 c0_9 c0_10 c0_11 c0_12 c0_13 c0_14 c0_15 c0_16 v1 o1
  unfold execOp
  simp [e0, e1, hb, aggL]
theorem bskP (w : World) (c0 c1 c2 c3 c4 c5 c6 c7 c8 c9 c10 c11 c12 c13 c14 c15 c16 c17 : Value) : (Instr.buildSlice 22 1 #[(0, .agg #[c0, c1, c2, c3, c4, c5, c6, c7, c8, c9, c10, c11, c12, c13, c14, c15, c16, c17])]).run Tryd.prog w = .ok (.slice (some ⟨w.heap.size, 0, none⟩) 1 1) (w.alloc (.cells #[c0, c1, c2, c3, c4, c5, c6, c7, c8, c9, c10, c11, c12, c13, c14, c15, c16, c17] 35)) := by kernel_rfl
@[go_sem ↓] theorem bsP (ev : Operand → Value) (d : Option Tmp) (x : Operand) (ty : TypeId) (pos : String) (af : Array Edge) (g : Option (Nat × Bool)) (w : World) (h : (aggL (ev x)).length = 18) :
    (execOp ev ⟨d, .buildSlice 22 1 #[(0, x)], ty, pos, af, g⟩).run Tryd.prog w = .ok (.value (.slice (some ⟨w.heap.size, 0, none⟩) 1 1)) (w.alloc (.cells (aggL (ev x)).toArray 35)) := by
  obtain ⟨l, e, hl⟩ := aggL_some (by omega) h
  obtain ⟨c0, c1, c2, c3, c4, c5, c6, c7, c8, c9, c10, c11, c12, c13, c14, c15, c16, c17, rfl⟩ : ∃ c0 c1 c2 c3 c4 c5 c6 c7 c8 c9 c10 c11 c12 c13 c14 c15 c16 c17 : Value, l = [c0, c1, c2, c3, c4, c5, c6, c7, c8, c9, c10, c11, c12, c13, c14, c15, c16, c17] := by
    match l, hl with
    | [c0, c1, c2, c3, c4, c5, c6, c7, c8, c9, c10, c11, c12, c13, c14, c15, c16, c17], _ => exact ⟨c0, c1, c2, c3, c4, c5, c6, c7, c8, c9, c10, c11, c12, c13, c14, c15, c16, c17, rfl⟩
  unfold execOp
  simp [e, bskP w c0 c1 c2 c3 c4 c5 c6 c7 c8 c9 c10 c11 c12 c13 c14 c15 c16 c17, aggL]
theorem infoP : (Tryd.prog.info? 35).map (fun i => (i.size, i.bytes)) = some (18, 32) := by kernel_rfl
theorem appP {w : World} {ops : Array Oper} {rest : List Oper} {o : Oper} {a : Act} {Q : Exit → Act → World → Prop} (hgd : o.guard = none) (s x : Operand)
    (ho : o.op = .call { callee := .builtin .append, args := #[s, x], argTypes := #[22, 22] })
    (base : Nat) (xs ys : List Pfx) (m1 m2 : Nat) (A0 : Option Addr) (c0 : Nat) (hs : a.eval s = .slice A0 m1 c0) (hm1 : m1 = xs.length) (hown : w.ownsRow base 35 18 (.slice A0 m1 c0) m1 (flat encP xs))
    (B : Nat) (A : Option Addr) (c : Nat) (hx : a.eval x = .slice A m2 c) (hm2 : m2 = ys.length) (hr : SlR encP 18 w B A ys) (hA : A = none → c = 0) (hlen : m1 + m2 ≤ 1000000) (hbase : base ≤ w.heap.size)
    (h : ∀ A' c' w', w'.ownsRow base 35 18 (.slice A' (m1 + m2) c') (m1 + m2) (flat encP (xs ++ ys)) → Below base w w' → (A' = none → c' = 0) → wpList Tryd.prog ops Q rest (a.put o.dst (.slice A' (m1 + m2) c')) w') : wpList Tryd.prog ops Q (o :: rest) a w :=
  app_rows encP 18 encP_length encP_one hgd s x 22 ho base 35 32 infoP (zvP w) (encP_length _) (by omega) Tryd.underlying22 (by omega) xs ys m1 m2 A0 c0 hs hm1 hown B A c hx hm2 hr hA hlen hbase h
--END GEN
@[go_sem] theorem take_A_1 (a : Adr) : (encA a).take 1 = [.int .i64 a.ver] := rfl
@[go_sem] theorem drop_A_17 (a : Adr) : (encA a).drop 17 = [] := List.drop_of_length_le (by simp [encA_length])
@[go_sem] theorem fold_P (a : Adr) (n : Int) : encA a ++ [Value.int .i64 n] = encP ⟨a, n⟩ := rfl
@[go_sem] theorem lenB (l : List UInt8) : (encB l).length = l.length := encB_length l
@[go_sem] theorem lenA (a : Adr) : (encA a).length = 17 := encA_length a
@[go_sem] theorem lenP (p : Pfx) : (encP p).length = 18 := encP_length p
@[go_sem] theorem oneB (l : List UInt8) : allOne (encB l) = true := List.all_eq_true.2 (encB_one l)
@[go_sem] theorem oneA (a : Adr) : allOne (encA a) = true := List.all_eq_true.2 (encA_one a)
@[go_sem] theorem oneP (p : Pfx) : allOne (encP p) = true := List.all_eq_true.2 (encP_one p)

@[go_sem] theorem cut_A_A (a : Adr) : cutRow (encA a).toArray 0 17 = some (encA a) := by
  unfold cutRow; rw [if_pos (by simp [encA_length])]
  simp [List.take_of_length_le (show (encA a).length ≤ 17 by simp [encA_length])]
@[go_sem] theorem cut_A_B (a : Adr) : cutRow (encA a).toArray 1 16 = some (encB a.bs) := by
  unfold cutRow; rw [if_pos (by simp [encA_length])]
  simp only [encA, List.drop_succ_cons, List.drop_zero]
  rw [List.take_of_length_le (by simp [encB_length, a.len])]
@[go_sem] theorem cut_P_P (p : Pfx) : cutRow (encP p).toArray 0 18 = some (encP p) := by
  unfold cutRow; rw [if_pos (by simp [encP_length])]
  simp [List.take_of_length_le (show (encP p).length ≤ 18 by simp [encP_length])]
@[go_sem] theorem cut_P_A (p : Pfx) : cutRow (encP p).toArray 0 17 = some (encA p.a) := by
  unfold cutRow; rw [if_pos (by simp [encP_length])]
  simp [encP, encA, List.take_append, encB_length, p.a.len, List.take_of_length_le]
@[go_sem] theorem cut_P_B (p : Pfx) : cutRow (encP p).toArray 1 16 = some (encB p.a.bs) := by
  unfold cutRow; rw [if_pos (by simp [encP_length])]
  simp [encP, List.take_append, encB_length, p.a.len, List.take_of_length_le]
@[go_sem] theorem get_A_0 (a : Adr) : (encA a)[0]? = some (.int .i64 a.ver) := rfl
@[go_sem] theorem get_P_0 (p : Pfx) : (encP p)[0]? = some (.int .i64 p.a.ver) := rfl
@[go_sem] theorem get_P_17 (p : Pfx) : (encP p)[17]? = some (.int .i64 p.bits) := by
  simp [encP, List.getElem?_append, encB_length, p.a.len]
@[go_sem] theorem gel_A_0 (a : Adr) (h : 0 < (encA a).length) : (encA a)[0]'h = .int .i64 a.ver := rfl
@[go_sem] theorem gel_P_0 (p : Pfx) (h : 0 < (encP p).length) : (encP p)[0]'h = .int .i64 p.a.ver := rfl
@[go_sem] theorem gel_P_17 (p : Pfx) (h : 17 < (encP p).length) : (encP p)[17]'h = .int .i64 p.bits := by
  have := get_P_17 p
  rw [List.getElem?_eq_getElem h] at this
  exact Option.some.inj this

end Go.Proofs.YtfdebdbmdbmbbaaDoor
