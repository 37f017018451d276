/-
  DERIVED. GIVEN WITH THE SEED: THE CARDS: each row of YtbbgmlfelhjkaaaDoorRows.lean that lists a variable, with what it lists TIED to the program's text (the seventh form; the later family's looks); each row that meets fmt, with fmt's text TOLD by the authors' own Lean function (tested against real Go, not proved from fmt's source: count such statements apart). THE CARD IS WHAT COUNTS. Prove the row's statement (the work); the ties are given (YtbbgmlfelhjkaaaDoorTie.lean); close each card by the builder's one call (the guide's Derived/Test/ToyasCard.lean, 'card_holds'). Laid BY PROGRAM, IN A SANDBOX (cutbox-door.mjs). By AI agents, Wed Nov 11 2026. No macro, syntax, notation, axiom, sorry.
-/
import Derived.Test.YtbbgmlfelhjkaaaDoorRows
import GoSem.ClaimSeven
namespace Go.Proofs.YtbbgmlfelhjkaaaDoor
namespace Rows

/-- THE TIED CARD OF 'gamehallkeep2.CardsReads'. -/
def cardsReadsCard : Claim7 := { stood := { row := cardsReadsRow, standIns := [], harness := (true, "775b98b1fa0f82b5a3f5ffc092efee6d2f88d9423b6f0872c91092d03a7e24d2"), looks := false }, kinds := [], alts := [], laidByText := true, laidKinds := [.data, .pinned], laidTests := true, laidLooks := .later }
def CardsReadsCardSaid : Prop := Claim7.holds Tryd.pinned (.plain (OpenSpec.ofChange cardsReadsSpec)) cardsReadsCard

/-- THE SECOND FORM's CARD OF 'gamehallkeep2.CardsReads'. -/
def cardsReadsUptoCard : Claim7 := { stood := { row := cardsReadsUptoRow, standIns := [], harness := (true, "775b98b1fa0f82b5a3f5ffc092efee6d2f88d9423b6f0872c91092d03a7e24d2"), looks := false }, kinds := [], alts := [], laidByText := true, laidKinds := [.data, .pinned], laidTests := true, laidLooks := .later }
def CardsReadsUptoCardSaid : Prop := Claim7.holds Tryd.pinned (.plain (OpenSpec.upto cardsReadsSpec)) cardsReadsUptoCard
end Rows
end Go.Proofs.YtbbgmlfelhjkaaaDoor
