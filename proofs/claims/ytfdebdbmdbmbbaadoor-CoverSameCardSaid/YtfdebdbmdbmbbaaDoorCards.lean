/-
  DERIVED. GIVEN WITH THE SEED: THE CARDS: each row of YtfdebdbmdbmbbaaDoorRows.lean that lists a variable, with what it lists TIED to the program's text (the seventh form; the later family's looks); each row that meets fmt, with fmt's text TOLD by the authors' own Lean function (tested against real Go, not proved from fmt's source: count such statements apart). THE CARD IS WHAT COUNTS. Prove the row's statement (the work); the ties are given (YtfdebdbmdbmbbaaDoorTie.lean); close each card by the builder's one call (the guide's Derived/Test/ToyasCard.lean, 'card_holds'). Laid BY PROGRAM, IN A SANDBOX (cutbox-door.mjs). By AI agents, Wed Nov 11 2026. No macro, syntax, notation, axiom, sorry.
-/
import Derived.Test.YtfdebdbmdbmbbaaDoorRows
import GoSem.ClaimSeven
namespace Go.Proofs.YtfdebdbmdbmbbaaDoor
namespace Rows

/-- THE TIED CARD OF 'junctionboxlaw24.CoverParts'. -/
def coverPartsCard : Claim7 := { stood := { row := coverPartsRow, standIns := [], harness := (true, "b20f02b40421850287ea2204102e899e6f6b1ac5364c0056c76f5d42285cf50e"), looks := false }, kinds := [], alts := [], laidByText := true, laidKinds := [.data], laidTests := true, laidLooks := .later }
def CoverPartsCardSaid : Prop := Claim7.holds Tryd.pinned (.plain (OpenSpec.ofChange coverPartsSpec)) coverPartsCard

/-- THE TIED CARD OF 'junctionboxlaw24.CoverSame'. -/
def coverSameCard : Claim7 := { stood := { row := coverSameRow, standIns := [], harness := (true, "b20f02b40421850287ea2204102e899e6f6b1ac5364c0056c76f5d42285cf50e"), looks := false }, kinds := [], alts := [], laidByText := true, laidKinds := [.data], laidTests := true, laidLooks := .later }
def CoverSameCardSaid : Prop := Claim7.holds Tryd.pinned (.plain (OpenSpec.ofChange coverSameSpec)) coverSameCard

/-- THE SECOND FORM's CARD OF 'junctionboxlaw24.CoverParts'. -/
def coverPartsUptoCard : Claim7 := { stood := { row := coverPartsUptoRow, standIns := [], harness := (true, "b20f02b40421850287ea2204102e899e6f6b1ac5364c0056c76f5d42285cf50e"), looks := false }, kinds := [], alts := [], laidByText := true, laidKinds := [.data], laidTests := true, laidLooks := .later }
def CoverPartsUptoCardSaid : Prop := Claim7.holds Tryd.pinned (.plain (OpenSpec.upto coverPartsSpec)) coverPartsUptoCard

/-- THE SECOND FORM's CARD OF 'junctionboxlaw24.CoverSame'. -/
def coverSameUptoCard : Claim7 := { stood := { row := coverSameUptoRow, standIns := [], harness := (true, "b20f02b40421850287ea2204102e899e6f6b1ac5364c0056c76f5d42285cf50e"), looks := false }, kinds := [], alts := [], laidByText := true, laidKinds := [.data], laidTests := true, laidLooks := .later }
def CoverSameUptoCardSaid : Prop := Claim7.holds Tryd.pinned (.plain (OpenSpec.upto coverSameSpec)) coverSameUptoCard
end Rows
end Go.Proofs.YtfdebdbmdbmbbaaDoor
