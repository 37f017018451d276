/-
  DERIVED. GIVEN WITH THE SEED: THE CARDS: each row of YtkdikllfbklhcaaDoorRows.lean that lists a variable, with what it lists TIED to the program's text (the seventh form; the later family's looks); each row that meets fmt, with fmt's text TOLD by the authors' own Lean function (tested against real Go, not proved from fmt's source: count such statements apart). THE CARD IS WHAT COUNTS. Prove the row's statement (the work); the ties are given (YtkdikllfbklhcaaDoorTie.lean); close each card by the builder's one call (the guide's Derived/Test/ToyasCard.lean, 'card_holds'). Laid BY PROGRAM, IN A SANDBOX (cutbox-door.mjs). By AI agents, Wed Nov 11 2026. No macro, syntax, notation, axiom, sorry.
-/
import Derived.Test.YtkdikllfbklhcaaDoorRows
import GoSem.ClaimSeven
namespace Go.Proofs.YtkdikllfbklhcaaDoor
namespace Rows

/-- THE TIED CARD OF 'gamehallkeep2.NatRing'. -/
def natRingCard : Claim7 := { stood := { row := natRingRow, standIns := [], harness := (true, "cd5fded65131cdf5c0b30e39ab7da1acf6e2a7c0be58c071772f06709d1dcb3a"), looks := false }, kinds := [], alts := [], laidByText := true, laidKinds := [.data, .pinned], laidTests := true, laidLooks := .later }
def NatRingCardSaid : Prop := Claim7.holds Tryd.pinned (.plain (OpenSpec.ofChange natRingSpec)) natRingCard

/-- THE TIED CARD OF 'gamehallkeep2.NatEuclid'. -/
def natEuclidCard : Claim7 := { stood := { row := natEuclidRow, standIns := [], harness := (true, "cd5fded65131cdf5c0b30e39ab7da1acf6e2a7c0be58c071772f06709d1dcb3a"), looks := false }, kinds := [], alts := [], laidByText := true, laidKinds := [.data, .pinned], laidTests := true, laidLooks := .later }
def NatEuclidCardSaid : Prop := Claim7.holds Tryd.pinned (.plain (OpenSpec.ofChange natEuclidSpec)) natEuclidCard

/-- THE TIED CARD OF 'gamehallkeep2.NatOrders'. -/
def natOrdersCard : Claim7 := { stood := { row := natOrdersRow, standIns := [], harness := (true, "cd5fded65131cdf5c0b30e39ab7da1acf6e2a7c0be58c071772f06709d1dcb3a"), looks := false }, kinds := [], alts := [], laidByText := true, laidKinds := [.data, .pinned], laidTests := true, laidLooks := .later }
def NatOrdersCardSaid : Prop := Claim7.holds Tryd.pinned (.plain (OpenSpec.ofChange natOrdersSpec)) natOrdersCard

/-- THE TIED CARD OF 'gamehallkeep2.NatPascal'. -/
def natPascalCard : Claim7 := { stood := { row := natPascalRow, standIns := [], harness := (true, "cd5fded65131cdf5c0b30e39ab7da1acf6e2a7c0be58c071772f06709d1dcb3a"), looks := false }, kinds := [], alts := [], laidByText := true, laidKinds := [.data, .pinned], laidTests := true, laidLooks := .later }
def NatPascalCardSaid : Prop := Claim7.holds Tryd.pinned (.plain (OpenSpec.ofChange natPascalSpec)) natPascalCard

/-- THE SECOND FORM's CARD OF 'gamehallkeep2.NatRing'. -/
def natRingUptoCard : Claim7 := { stood := { row := natRingUptoRow, standIns := [], harness := (true, "cd5fded65131cdf5c0b30e39ab7da1acf6e2a7c0be58c071772f06709d1dcb3a"), looks := false }, kinds := [], alts := [], laidByText := true, laidKinds := [.data, .pinned], laidTests := true, laidLooks := .later }
def NatRingUptoCardSaid : Prop := Claim7.holds Tryd.pinned (.plain (OpenSpec.upto natRingSpec)) natRingUptoCard

/-- THE SECOND FORM's CARD OF 'gamehallkeep2.NatEuclid'. -/
def natEuclidUptoCard : Claim7 := { stood := { row := natEuclidUptoRow, standIns := [], harness := (true, "cd5fded65131cdf5c0b30e39ab7da1acf6e2a7c0be58c071772f06709d1dcb3a"), looks := false }, kinds := [], alts := [], laidByText := true, laidKinds := [.data, .pinned], laidTests := true, laidLooks := .later }
def NatEuclidUptoCardSaid : Prop := Claim7.holds Tryd.pinned (.plain (OpenSpec.upto natEuclidSpec)) natEuclidUptoCard

/-- THE SECOND FORM's CARD OF 'gamehallkeep2.NatOrders'. -/
def natOrdersUptoCard : Claim7 := { stood := { row := natOrdersUptoRow, standIns := [], harness := (true, "cd5fded65131cdf5c0b30e39ab7da1acf6e2a7c0be58c071772f06709d1dcb3a"), looks := false }, kinds := [], alts := [], laidByText := true, laidKinds := [.data, .pinned], laidTests := true, laidLooks := .later }
def NatOrdersUptoCardSaid : Prop := Claim7.holds Tryd.pinned (.plain (OpenSpec.upto natOrdersSpec)) natOrdersUptoCard

/-- THE SECOND FORM's CARD OF 'gamehallkeep2.NatPascal'. -/
def natPascalUptoCard : Claim7 := { stood := { row := natPascalUptoRow, standIns := [], harness := (true, "cd5fded65131cdf5c0b30e39ab7da1acf6e2a7c0be58c071772f06709d1dcb3a"), looks := false }, kinds := [], alts := [], laidByText := true, laidKinds := [.data, .pinned], laidTests := true, laidLooks := .later }
def NatPascalUptoCardSaid : Prop := Claim7.holds Tryd.pinned (.plain (OpenSpec.upto natPascalSpec)) natPascalUptoCard
end Rows
end Go.Proofs.YtkdikllfbklhcaaDoor
