/-
  DERIVED. GIVEN WITH THE SEED: THE CARDS: each row of YtcdcoeofhnfjdabGreatDoorRows.lean that lists a variable, with what it lists TIED to the program's text (the seventh form; the later family's looks); each row that meets fmt, with fmt's text TOLD by the authors' own Lean function (tested against real Go, not proved from fmt's source: count such statements apart). THE CARD IS WHAT COUNTS. Prove the row's statement (the work); the ties are given (YtcdcoeofhnfjdabGreatDoorTie.lean); close each card by the builder's one call (the guide's Derived/Test/ToyasCard.lean, 'card_holds'). Laid BY PROGRAM, IN A SANDBOX (cutbox-door.mjs). By AI agents, Wed Nov 11 2026. No macro, syntax, notation, axiom, sorry.
-/
import Derived.Test.YtcdcoeofhnfjdabGreatDoorRows
import GoSem.ClaimSeven
namespace Go.Proofs.YtcdcoeofhnfjdabGreatDoor
namespace Rows

/-- THE TIED CARD OF 'gamehallkeep2.MatgameShifts'. -/
def matgameShiftsCard : Claim7 := { stood := { row := matgameShiftsRow, standIns := [], harness := (true, "171b7e86132f0a4bf917191a82a83969f69400aaad359aa7d60c25b2e6dc3042"), looks := false }, kinds := [], alts := [], laidByText := true, laidKinds := [.data, .pinned], laidTests := true, laidLooks := .later }
def MatgameShiftsCardSaid : Prop := Claim7.holds Tryz.pinned (.plain (OpenSpec.ofChange matgameShiftsSpec)) matgameShiftsCard

/-- THE TIED CARD OF 'gamehallkeep2.MatgameDrops'. -/
def matgameDropsCard : Claim7 := { stood := { row := matgameDropsRow, standIns := [], harness := (true, "171b7e86132f0a4bf917191a82a83969f69400aaad359aa7d60c25b2e6dc3042"), looks := false }, kinds := [], alts := [], laidByText := true, laidKinds := [.data, .pinned], laidTests := true, laidLooks := .later }
def MatgameDropsCardSaid : Prop := Claim7.holds Tryz.pinned (.plain (OpenSpec.ofChange matgameDropsSpec)) matgameDropsCard

/-- THE TIED CARD OF 'gamehallkeep2.MatgameTurns'. -/
def matgameTurnsCard : Claim7 := { stood := { row := matgameTurnsRow, standIns := [], harness := (true, "171b7e86132f0a4bf917191a82a83969f69400aaad359aa7d60c25b2e6dc3042"), looks := false }, kinds := [], alts := [], laidByText := true, laidKinds := [.data, .pinned], laidTests := true, laidLooks := .later }
def MatgameTurnsCardSaid : Prop := Claim7.holds Tryz.pinned (.plain (OpenSpec.ofChange matgameTurnsSpec)) matgameTurnsCard

/-- THE SECOND FORM's CARD OF 'gamehallkeep2.MatgameShifts'. -/
def matgameShiftsUptoCard : Claim7 := { stood := { row := matgameShiftsUptoRow, standIns := [], harness := (true, "171b7e86132f0a4bf917191a82a83969f69400aaad359aa7d60c25b2e6dc3042"), looks := false }, kinds := [], alts := [], laidByText := true, laidKinds := [.data, .pinned], laidTests := true, laidLooks := .later }
def MatgameShiftsUptoCardSaid : Prop := Claim7.holds Tryz.pinned (.plain (OpenSpec.upto matgameShiftsSpec)) matgameShiftsUptoCard

/-- THE SECOND FORM's CARD OF 'gamehallkeep2.MatgameDrops'. -/
def matgameDropsUptoCard : Claim7 := { stood := { row := matgameDropsUptoRow, standIns := [], harness := (true, "171b7e86132f0a4bf917191a82a83969f69400aaad359aa7d60c25b2e6dc3042"), looks := false }, kinds := [], alts := [], laidByText := true, laidKinds := [.data, .pinned], laidTests := true, laidLooks := .later }
def MatgameDropsUptoCardSaid : Prop := Claim7.holds Tryz.pinned (.plain (OpenSpec.upto matgameDropsSpec)) matgameDropsUptoCard

/-- THE SECOND FORM's CARD OF 'gamehallkeep2.MatgameTurns'. -/
def matgameTurnsUptoCard : Claim7 := { stood := { row := matgameTurnsUptoRow, standIns := [], harness := (true, "171b7e86132f0a4bf917191a82a83969f69400aaad359aa7d60c25b2e6dc3042"), looks := false }, kinds := [], alts := [], laidByText := true, laidKinds := [.data, .pinned], laidTests := true, laidLooks := .later }
def MatgameTurnsUptoCardSaid : Prop := Claim7.holds Tryz.pinned (.plain (OpenSpec.upto matgameTurnsSpec)) matgameTurnsUptoCard
end Rows
end Go.Proofs.YtcdcoeofhnfjdabGreatDoor
