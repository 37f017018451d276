/-
  DERIVED. GIVEN WITH THE SEED: THE CARDS: each row of YtjdilnkihnnfeaaDoorRows.lean that lists a variable, with what it lists TIED to the program's text (the seventh form; the later family's looks); each row that meets fmt, with fmt's text TOLD by the authors' own Lean function (tested against real Go, not proved from fmt's source: count such statements apart). THE CARD IS WHAT COUNTS. Prove the row's statement (the work); the ties are given (YtjdilnkihnnfeaaDoorTie.lean); close each card by the builder's one call (the guide's Derived/Test/ToyasCard.lean, 'card_holds'). Laid BY PROGRAM, IN A SANDBOX (cutbox-door.mjs). By AI agents, Wed Nov 11 2026. No macro, syntax, notation, axiom, sorry.
-/
import Derived.Test.YtjdilnkihnnfeaaDoorRows
import GoSem.ClaimSeven
namespace Go.Proofs.YtjdilnkihnnfeaaDoor
namespace Rows

/-- THE TIED CARD OF 'gamehallkeep2.RatField'. -/
def ratFieldCard : Claim7 := { stood := { row := ratFieldRow, standIns := [], harness := (true, "9af66fbc24f6e9a007403cabd3c63cf45381eefef6f2a8d1c69ab85109b512ad"), looks := false }, kinds := [], alts := [], laidByText := true, laidKinds := [.data, .pinned], laidTests := true, laidLooks := .later }
def RatFieldCardSaid : Prop := Claim7.holds Tryd.pinned (.plain (OpenSpec.ofChange ratFieldSpec)) ratFieldCard

/-- THE TIED CARD OF 'gamehallkeep2.RatOrder'. -/
def ratOrderCard : Claim7 := { stood := { row := ratOrderRow, standIns := [], harness := (true, "9af66fbc24f6e9a007403cabd3c63cf45381eefef6f2a8d1c69ab85109b512ad"), looks := false }, kinds := [], alts := [], laidByText := true, laidKinds := [.data, .pinned], laidTests := true, laidLooks := .later }
def RatOrderCardSaid : Prop := Claim7.holds Tryd.pinned (.plain (OpenSpec.ofChange ratOrderSpec)) ratOrderCard

/-- THE TIED CARD OF 'gamehallkeep2.RatFloors'. -/
def ratFloorsCard : Claim7 := { stood := { row := ratFloorsRow, standIns := [], harness := (true, "9af66fbc24f6e9a007403cabd3c63cf45381eefef6f2a8d1c69ab85109b512ad"), looks := false }, kinds := [], alts := [], laidByText := true, laidKinds := [.data, .pinned], laidTests := true, laidLooks := .later }
def RatFloorsCardSaid : Prop := Claim7.holds Tryd.pinned (.plain (OpenSpec.ofChange ratFloorsSpec)) ratFloorsCard

/-- THE TIED CARD OF 'gamehallkeep2.RatShared'. -/
def ratSharedCard : Claim7 := { stood := { row := ratSharedRow, standIns := [], harness := (true, "9af66fbc24f6e9a007403cabd3c63cf45381eefef6f2a8d1c69ab85109b512ad"), looks := false }, kinds := [], alts := [], laidByText := true, laidKinds := [.data, .pinned], laidTests := true, laidLooks := .later }
def RatSharedCardSaid : Prop := Claim7.holds Tryd.pinned (.plain (OpenSpec.ofChange ratSharedSpec)) ratSharedCard

/-- THE SECOND FORM's CARD OF 'gamehallkeep2.RatField'. -/
def ratFieldUptoCard : Claim7 := { stood := { row := ratFieldUptoRow, standIns := [], harness := (true, "9af66fbc24f6e9a007403cabd3c63cf45381eefef6f2a8d1c69ab85109b512ad"), looks := false }, kinds := [], alts := [], laidByText := true, laidKinds := [.data, .pinned], laidTests := true, laidLooks := .later }
def RatFieldUptoCardSaid : Prop := Claim7.holds Tryd.pinned (.plain (OpenSpec.upto ratFieldSpec)) ratFieldUptoCard

/-- THE SECOND FORM's CARD OF 'gamehallkeep2.RatOrder'. -/
def ratOrderUptoCard : Claim7 := { stood := { row := ratOrderUptoRow, standIns := [], harness := (true, "9af66fbc24f6e9a007403cabd3c63cf45381eefef6f2a8d1c69ab85109b512ad"), looks := false }, kinds := [], alts := [], laidByText := true, laidKinds := [.data, .pinned], laidTests := true, laidLooks := .later }
def RatOrderUptoCardSaid : Prop := Claim7.holds Tryd.pinned (.plain (OpenSpec.upto ratOrderSpec)) ratOrderUptoCard

/-- THE SECOND FORM's CARD OF 'gamehallkeep2.RatFloors'. -/
def ratFloorsUptoCard : Claim7 := { stood := { row := ratFloorsUptoRow, standIns := [], harness := (true, "9af66fbc24f6e9a007403cabd3c63cf45381eefef6f2a8d1c69ab85109b512ad"), looks := false }, kinds := [], alts := [], laidByText := true, laidKinds := [.data, .pinned], laidTests := true, laidLooks := .later }
def RatFloorsUptoCardSaid : Prop := Claim7.holds Tryd.pinned (.plain (OpenSpec.upto ratFloorsSpec)) ratFloorsUptoCard

/-- THE SECOND FORM's CARD OF 'gamehallkeep2.RatShared'. -/
def ratSharedUptoCard : Claim7 := { stood := { row := ratSharedUptoRow, standIns := [], harness := (true, "9af66fbc24f6e9a007403cabd3c63cf45381eefef6f2a8d1c69ab85109b512ad"), looks := false }, kinds := [], alts := [], laidByText := true, laidKinds := [.data, .pinned], laidTests := true, laidLooks := .later }
def RatSharedUptoCardSaid : Prop := Claim7.holds Tryd.pinned (.plain (OpenSpec.upto ratSharedSpec)) ratSharedUptoCard
end Rows
end Go.Proofs.YtjdilnkihnnfeaaDoor
