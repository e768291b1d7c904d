/- The plain data of addresses and prefixes, and how they lie in cells. -/
import Derived.WalkKit
set_option linter.unusedSimpArgs false
set_option linter.unusedVariables false
namespace Go.Proofs.YtfdebdbmdbmbbaaDoor

/-- An address: its version and its sixteen bytes. -/
structure Adr where
  ver : Int
  bs : List UInt8
  len : bs.length = 16
  deriving DecidableEq

/-- A prefix: an address and how many bits. -/
structure Pfx where
  a : Adr
  bits : Int
  deriving DecidableEq

def u8v (b : UInt8) : Value := .int .u8 (b.toNat : Int)
def encB (l : List UInt8) : List Value := l.map u8v
def encA (a : Adr) : List Value := .int .i64 a.ver :: encB a.bs
def encP (p : Pfx) : List Value := (.int .i64 p.a.ver :: encB p.a.bs) ++ [.int .i64 p.bits]

theorem encB_length (l : List UInt8) : (encB l).length = l.length := by simp [encB]
theorem encA_length (a : Adr) : (encA a).length = 17 := by simp [encA, encB, a.len]
theorem encP_length (p : Pfx) : (encP p).length = 18 := by simp [encP, encB, p.a.len]

theorem u8v_one (b : UInt8) : (u8v b).oneCell' = true := rfl
theorem encB_one (l : List UInt8) : ∀ v ∈ encB l, v.oneCell' = true := by
  intro v hv; simp only [encB, List.mem_map] at hv; obtain ⟨b, _, rfl⟩ := hv; rfl
theorem encA_one (a : Adr) : ∀ v ∈ encA a, v.oneCell' = true := by
  intro v hv; simp only [encA, List.mem_cons] at hv
  rcases hv with rfl | hv
  · rfl
  · exact encB_one _ v hv
theorem encP_one (p : Pfx) : ∀ v ∈ encP p, v.oneCell' = true := by
  intro v hv; simp only [encP, List.mem_append, List.mem_cons, List.not_mem_nil, or_false] at hv
  rcases hv with (rfl | hv) | rfl
  · rfl
  · exact encB_one _ v hv
  · rfl

/-- Bit i of bytes, the first one first. -/
def bitL (l : List UInt8) (i : Nat) : Bool := (l.getD (i / 8) 0).toNat / 2 ^ (7 - i % 8) % 2 == 1

/-- All bits from one on, up to 128, are noughts. -/
def clearL (l : List UInt8) (i : Nat) : Bool := (List.range 128).all fun k => decide (k < i) || !bitL l k

/-- How many bits an address of a version has. -/
def width (n : Int) : Int := if n = 4 then 32 else if n = 6 then 128 else 0
def okA (a : Adr) : Bool := decide (width a.ver ≠ 0) && clearL a.bs (width a.ver).toNat
def okP (p : Pfx) : Bool := okA p.a && decide (0 ≤ p.bits) && decide (p.bits ≤ width p.a.ver) && clearL p.a.bs p.bits.toNat
/-- A byte of which so many bits stay. -/
def cutB (b : UInt8) (keep : Int) : UInt8 := if keep ≤ 0 then 0 else if keep < 8 then UInt8.ofNat (b.toNat / 2 ^ (8 - keep.toNat) * 2 ^ (8 - keep.toNat)) else b
def cutL (l : List UInt8) (n : Int) : List UInt8 := (List.range 16).map fun i => cutB (l.getD i 0) (n - 8 * (i : Int))
theorem cutL_length (l : List UInt8) (n : Int) : (cutL l n).length = 16 := by simp [cutL]
def hasP (p : Pfx) (a : Adr) : Bool := okP p && okA a && decide (p.a.ver = a.ver) && decide (cutL a.bs p.bits = p.a.bs)
def holdsP (p q : Pfx) : Bool := okP q && decide (p.bits ≤ q.bits) && hasP p q.a
def adr0 : Adr := ⟨0, List.replicate 16 0, rfl⟩
def pfx0 : Pfx := ⟨adr0, 0⟩
/-- The prefix of so many bits that contains an address, and the error. -/
def ofP (a : Adr) (n : Int) : Pfx × Int :=
  if okA a = true then (if 0 ≤ n ∧ n ≤ width a.ver then (⟨⟨a.ver, cutL a.bs n, cutL_length _ _⟩, n⟩, 0) else (pfx0, 2)) else (pfx0, 150)
instance : Inhabited Pfx := ⟨pfx0⟩
def cmpI (a b : Int) : Int := if a < b then -1 else if b < a then 1 else 0
/-- Bytes in order. -/
def cmpB : List UInt8 → List UInt8 → Int
  | [], [] => 0
  | [], _ :: _ => -1
  | _ :: _, [] => 1
  | a :: l, b :: m => if a < b then -1 else if b < a then 1 else cmpB l m
def orI (a b : Int) : Int := if a = 0 then b else a
def compareP (p q : Pfx) : Int := orI (cmpI p.a.ver q.a.ver) (orI (cmpB p.a.bs q.a.bs) (cmpI p.bits q.bits))

end Go.Proofs.YtfdebdbmdbmbbaaDoor
