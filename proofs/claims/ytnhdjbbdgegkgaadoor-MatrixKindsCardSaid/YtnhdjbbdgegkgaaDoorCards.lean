/-
  DERIVED. GIVEN WITH THE SEED: THE CARDS: each row of YtnhdjbbdgegkgaaDoorRows.lean that lists a variable, with what it lists TIED to the program's text (the seventh form; the later family's looks); each row that meets fmt, with fmt's text TOLD by the authors' own Lean function (tested against real Go, not proved from fmt's source: count such statements apart). THE CARD IS WHAT COUNTS. Prove the row's statement (the work); the ties are given (YtnhdjbbdgegkgaaDoorTie.lean); close each card by the builder's one call (the guide's Derived/Test/ToyasCard.lean, 'card_holds'). Laid BY PROGRAM, IN A SANDBOX (cutbox-door.mjs). By AI agents, Wed Nov 11 2026. No macro, syntax, notation, axiom, sorry.
-/
import Derived.Test.YtnhdjbbdgegkgaaDoorRows
import GoSem.ClaimSeven
namespace Go.Proofs.YtnhdjbbdgegkgaaDoor
namespace Rows

/-- THE TIED CARD OF 'gamehallkeep2.MatrixRing'. -/
def matrixRingCard : Claim7 := { stood := { row := matrixRingRow, standIns := [], harness := (true, "78fa52c492d1dc97bdfeb88ab403e1e05552f2bac5d3419c8aa45d1ce4869bfe"), looks := false }, kinds := [], alts := [], laidByText := true, laidKinds := [.data, .pinned], laidTests := true, laidLooks := .later }
def MatrixRingCardSaid : Prop := Claim7.holds Tryd.pinned (.plain (OpenSpec.ofChange matrixRingSpec)) matrixRingCard

/-- THE TIED CARD OF 'gamehallkeep2.MatrixTurns'. -/
def matrixTurnsCard : Claim7 := { stood := { row := matrixTurnsRow, standIns := [], harness := (true, "78fa52c492d1dc97bdfeb88ab403e1e05552f2bac5d3419c8aa45d1ce4869bfe"), looks := false }, kinds := [], alts := [], laidByText := true, laidKinds := [.data, .pinned], laidTests := true, laidLooks := .later }
def MatrixTurnsCardSaid : Prop := Claim7.holds Tryd.pinned (.plain (OpenSpec.ofChange matrixTurnsSpec)) matrixTurnsCard

/-- THE TIED CARD OF 'gamehallkeep2.MatrixKinds'. -/
def matrixKindsCard : Claim7 := { stood := { row := matrixKindsRow, standIns := [], harness := (true, "78fa52c492d1dc97bdfeb88ab403e1e05552f2bac5d3419c8aa45d1ce4869bfe"), looks := false }, kinds := [], alts := [], laidByText := true, laidKinds := [.data, .pinned], laidTests := true, laidLooks := .later }
def MatrixKindsCardSaid : Prop := Claim7.holds Tryd.pinned (.plain (OpenSpec.ofChange matrixKindsSpec)) matrixKindsCard

/-- THE SECOND FORM's CARD OF 'gamehallkeep2.MatrixRing'. -/
def matrixRingUptoCard : Claim7 := { stood := { row := matrixRingUptoRow, standIns := [], harness := (true, "78fa52c492d1dc97bdfeb88ab403e1e05552f2bac5d3419c8aa45d1ce4869bfe"), looks := false }, kinds := [], alts := [], laidByText := true, laidKinds := [.data, .pinned], laidTests := true, laidLooks := .later }
def MatrixRingUptoCardSaid : Prop := Claim7.holds Tryd.pinned (.plain (OpenSpec.upto matrixRingSpec)) matrixRingUptoCard

/-- THE SECOND FORM's CARD OF 'gamehallkeep2.MatrixTurns'. -/
def matrixTurnsUptoCard : Claim7 := { stood := { row := matrixTurnsUptoRow, standIns := [], harness := (true, "78fa52c492d1dc97bdfeb88ab403e1e05552f2bac5d3419c8aa45d1ce4869bfe"), looks := false }, kinds := [], alts := [], laidByText := true, laidKinds := [.data, .pinned], laidTests := true, laidLooks := .later }
def MatrixTurnsUptoCardSaid : Prop := Claim7.holds Tryd.pinned (.plain (OpenSpec.upto matrixTurnsSpec)) matrixTurnsUptoCard

/-- THE SECOND FORM's CARD OF 'gamehallkeep2.MatrixKinds'. -/
def matrixKindsUptoCard : Claim7 := { stood := { row := matrixKindsUptoRow, standIns := [], harness := (true, "78fa52c492d1dc97bdfeb88ab403e1e05552f2bac5d3419c8aa45d1ce4869bfe"), looks := false }, kinds := [], alts := [], laidByText := true, laidKinds := [.data, .pinned], laidTests := true, laidLooks := .later }
def MatrixKindsUptoCardSaid : Prop := Claim7.holds Tryd.pinned (.plain (OpenSpec.upto matrixKindsSpec)) matrixKindsUptoCard
end Rows
end Go.Proofs.YtnhdjbbdgegkgaaDoor
