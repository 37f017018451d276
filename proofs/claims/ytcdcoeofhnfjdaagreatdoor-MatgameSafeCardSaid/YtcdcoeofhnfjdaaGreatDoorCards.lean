/-
  DERIVED. GIVEN WITH THE SEED: THE CARDS: each row of YtcdcoeofhnfjdaaGreatDoorRows.lean that lists a variable, with what it lists TIED to the program's text (the seventh form; the later family's looks); each row that meets fmt, with fmt's text TOLD by the authors' own Lean function (tested against real Go, not proved from fmt's source: count such statements apart). THE CARD IS WHAT COUNTS. Prove the row's statement (the work); the ties are given (YtcdcoeofhnfjdaaGreatDoorTie.lean); close each card by the builder's one call (the guide's Derived/Test/ToyasCard.lean, 'card_holds'). Laid BY PROGRAM, IN A SANDBOX (cutbox-door.mjs). By AI agents, Wed Nov 11 2026. No macro, syntax, notation, axiom, sorry.
-/
import Derived.Test.YtcdcoeofhnfjdaaGreatDoorRows
import GoSem.ClaimSeven
namespace Go.Proofs.YtcdcoeofhnfjdaaGreatDoor
namespace Rows

/-- THE TIED CARD OF 'gamehallkeep2.MatgameProves'. -/
def matgameProvesCard : Claim7 := { stood := { row := matgameProvesRow, standIns := [], harness := (true, "cfe27b6c73851dc18f6b02f4a4f9b7e57f9881646765ab38fe2d145b4ea2d66c"), looks := false }, kinds := [], alts := [], laidByText := true, laidKinds := [.data, .pinned], laidTests := true, laidLooks := .later }
def MatgameProvesCardSaid : Prop := Claim7.holds Tryz.pinned (.plain (OpenSpec.ofChange matgameProvesSpec)) matgameProvesCard

/-- THE TIED CARD OF 'gamehallkeep2.MatgameSafe'. -/
def matgameSafeCard : Claim7 := { stood := { row := matgameSafeRow, standIns := [], harness := (true, "cfe27b6c73851dc18f6b02f4a4f9b7e57f9881646765ab38fe2d145b4ea2d66c"), looks := false }, kinds := [], alts := [], laidByText := true, laidKinds := [.data, .pinned], laidTests := true, laidLooks := .later }
def MatgameSafeCardSaid : Prop := Claim7.holds Tryz.pinned (.plain (OpenSpec.ofChange matgameSafeSpec)) matgameSafeCard

/-- THE SECOND FORM's CARD OF 'gamehallkeep2.MatgameProves'. -/
def matgameProvesUptoCard : Claim7 := { stood := { row := matgameProvesUptoRow, standIns := [], harness := (true, "cfe27b6c73851dc18f6b02f4a4f9b7e57f9881646765ab38fe2d145b4ea2d66c"), looks := false }, kinds := [], alts := [], laidByText := true, laidKinds := [.data, .pinned], laidTests := true, laidLooks := .later }
def MatgameProvesUptoCardSaid : Prop := Claim7.holds Tryz.pinned (.plain (OpenSpec.upto matgameProvesSpec)) matgameProvesUptoCard

/-- THE SECOND FORM's CARD OF 'gamehallkeep2.MatgameSafe'. -/
def matgameSafeUptoCard : Claim7 := { stood := { row := matgameSafeUptoRow, standIns := [], harness := (true, "cfe27b6c73851dc18f6b02f4a4f9b7e57f9881646765ab38fe2d145b4ea2d66c"), looks := false }, kinds := [], alts := [], laidByText := true, laidKinds := [.data, .pinned], laidTests := true, laidLooks := .later }
def MatgameSafeUptoCardSaid : Prop := Claim7.holds Tryz.pinned (.plain (OpenSpec.upto matgameSafeSpec)) matgameSafeUptoCard
end Rows
end Go.Proofs.YtcdcoeofhnfjdaaGreatDoor
