/-
  DERIVED. GIVEN WITH THE SEED: THE CARDS: each row of YtnlclnheakhncaaDoorRows.lean that lists a variable, with what it lists TIED to the program's text (the seventh form; the later family's looks); each row that meets fmt, with fmt's text TOLD by the authors' own Lean function (tested against real Go, not proved from fmt's source: count such statements apart). THE CARD IS WHAT COUNTS. Prove the row's statement (the work); the ties are given (YtnlclnheakhncaaDoorTie.lean); close each card by the builder's one call (the guide's Derived/Test/ToyasCard.lean, 'card_holds'). Laid BY PROGRAM, IN A SANDBOX (cutbox-door.mjs). By AI agents, Wed Nov 11 2026. No macro, syntax, notation, axiom, sorry.
-/
import Derived.Test.YtnlclnheakhncaaDoorRows
import GoSem.ClaimSeven
namespace Go.Proofs.YtnlclnheakhncaaDoor
namespace Rows

/-- THE TIED CARD OF 'gamehallkeep2.DealHonest'. -/
def dealHonestCard : Claim7 := { stood := { row := dealHonestRow, standIns := [], harness := (true, "b77e206570f0421de5f4211c91756ede386932e12710192dff2f61028a90e11b"), looks := false }, kinds := [], alts := [], laidByText := true, laidKinds := [.data, .pinned], laidTests := true, laidLooks := .later }
def DealHonestCardSaid : Prop := Claim7.holds Tryd.pinned (.plain (OpenSpec.ofChange dealHonestSpec)) dealHonestCard

/-- THE TIED CARD OF 'gamehallkeep2.DealEach'. -/
def dealEachCard : Claim7 := { stood := { row := dealEachRow, standIns := [], harness := (true, "b77e206570f0421de5f4211c91756ede386932e12710192dff2f61028a90e11b"), looks := false }, kinds := [], alts := [], laidByText := true, laidKinds := [.data, .pinned], laidTests := true, laidLooks := .later }
def DealEachCardSaid : Prop := Claim7.holds Tryd.pinned (.plain (OpenSpec.ofChange dealEachSpec)) dealEachCard

/-- THE TIED CARD OF 'gamehallkeep2.DealFalse'. -/
def dealFalseCard : Claim7 := { stood := { row := dealFalseRow, standIns := [], harness := (true, "b77e206570f0421de5f4211c91756ede386932e12710192dff2f61028a90e11b"), looks := false }, kinds := [], alts := [], laidByText := true, laidKinds := [.data, .pinned], laidTests := true, laidLooks := .later }
def DealFalseCardSaid : Prop := Claim7.holds Tryd.pinned (.plain (OpenSpec.ofChange dealFalseSpec)) dealFalseCard

/-- THE SECOND FORM's CARD OF 'gamehallkeep2.DealHonest'. -/
def dealHonestUptoCard : Claim7 := { stood := { row := dealHonestUptoRow, standIns := [], harness := (true, "b77e206570f0421de5f4211c91756ede386932e12710192dff2f61028a90e11b"), looks := false }, kinds := [], alts := [], laidByText := true, laidKinds := [.data, .pinned], laidTests := true, laidLooks := .later }
def DealHonestUptoCardSaid : Prop := Claim7.holds Tryd.pinned (.plain (OpenSpec.upto dealHonestSpec)) dealHonestUptoCard

/-- THE SECOND FORM's CARD OF 'gamehallkeep2.DealEach'. -/
def dealEachUptoCard : Claim7 := { stood := { row := dealEachUptoRow, standIns := [], harness := (true, "b77e206570f0421de5f4211c91756ede386932e12710192dff2f61028a90e11b"), looks := false }, kinds := [], alts := [], laidByText := true, laidKinds := [.data, .pinned], laidTests := true, laidLooks := .later }
def DealEachUptoCardSaid : Prop := Claim7.holds Tryd.pinned (.plain (OpenSpec.upto dealEachSpec)) dealEachUptoCard

/-- THE SECOND FORM's CARD OF 'gamehallkeep2.DealFalse'. -/
def dealFalseUptoCard : Claim7 := { stood := { row := dealFalseUptoRow, standIns := [], harness := (true, "b77e206570f0421de5f4211c91756ede386932e12710192dff2f61028a90e11b"), looks := false }, kinds := [], alts := [], laidByText := true, laidKinds := [.data, .pinned], laidTests := true, laidLooks := .later }
def DealFalseUptoCardSaid : Prop := Claim7.holds Tryd.pinned (.plain (OpenSpec.upto dealFalseSpec)) dealFalseUptoCard
end Rows
end Go.Proofs.YtnlclnheakhncaaDoor
