/-
  DERIVED. GIVEN WITH THE SEED: THE CARDS: each row of YtaahakhmcodaiaaDoorRows.lean that lists a variable, with what it lists TIED to the program's text (the seventh form; the later family's looks); each row that meets fmt, with fmt's text TOLD by the authors' own Lean function (tested against real Go, not proved from fmt's source: count such statements apart). THE CARD IS WHAT COUNTS. Prove the row's statement (the work); the ties are given (YtaahakhmcodaiaaDoorTie.lean); close each card by the builder's one call (the guide's Derived/Test/ToyasCard.lean, 'card_holds'). Laid BY PROGRAM, IN A SANDBOX (cutbox-door.mjs). By AI agents, Wed Nov 11 2026. No macro, syntax, notation, axiom, sorry.
-/
import Derived.Test.YtaahakhmcodaiaaDoorRows
import GoSem.ClaimSeven
namespace Go.Proofs.YtaahakhmcodaiaaDoor
namespace Rows

/-- THE TIED CARD OF 'gamehallkeep2.CardsBack'. -/
def cardsBackCard : Claim7 := { stood := { row := cardsBackRow, standIns := [], harness := (true, "d5b3aba079208ca126dc810aaeb3065c59b42bcf471660086c8bd28f4c4092c5"), looks := false }, kinds := [], alts := [], laidByText := true, laidKinds := [.data, .pinned], laidTests := true, laidLooks := .later }
def CardsBackCardSaid : Prop := Claim7.holds Tryd.pinned (.plain (OpenSpec.ofChange cardsBackSpec)) cardsBackCard

/-- THE TIED CARD OF 'gamehallkeep2.CardsEach'. -/
def cardsEachCard : Claim7 := { stood := { row := cardsEachRow, standIns := [], harness := (true, "d5b3aba079208ca126dc810aaeb3065c59b42bcf471660086c8bd28f4c4092c5"), looks := false }, kinds := [], alts := [], laidByText := true, laidKinds := [.data, .pinned], laidTests := true, laidLooks := .later }
def CardsEachCardSaid : Prop := Claim7.holds Tryd.pinned (.plain (OpenSpec.ofChange cardsEachSpec)) cardsEachCard

/-- THE TIED CARD OF 'gamehallkeep2.CardsCuts'. -/
def cardsCutsCard : Claim7 := { stood := { row := cardsCutsRow, standIns := [], harness := (true, "d5b3aba079208ca126dc810aaeb3065c59b42bcf471660086c8bd28f4c4092c5"), looks := false }, kinds := [], alts := [], laidByText := true, laidKinds := [.data, .pinned], laidTests := true, laidLooks := .later }
def CardsCutsCardSaid : Prop := Claim7.holds Tryd.pinned (.plain (OpenSpec.ofChange cardsCutsSpec)) cardsCutsCard

/-- THE SECOND FORM's CARD OF 'gamehallkeep2.CardsBack'. -/
def cardsBackUptoCard : Claim7 := { stood := { row := cardsBackUptoRow, standIns := [], harness := (true, "d5b3aba079208ca126dc810aaeb3065c59b42bcf471660086c8bd28f4c4092c5"), looks := false }, kinds := [], alts := [], laidByText := true, laidKinds := [.data, .pinned], laidTests := true, laidLooks := .later }
def CardsBackUptoCardSaid : Prop := Claim7.holds Tryd.pinned (.plain (OpenSpec.upto cardsBackSpec)) cardsBackUptoCard

/-- THE SECOND FORM's CARD OF 'gamehallkeep2.CardsEach'. -/
def cardsEachUptoCard : Claim7 := { stood := { row := cardsEachUptoRow, standIns := [], harness := (true, "d5b3aba079208ca126dc810aaeb3065c59b42bcf471660086c8bd28f4c4092c5"), looks := false }, kinds := [], alts := [], laidByText := true, laidKinds := [.data, .pinned], laidTests := true, laidLooks := .later }
def CardsEachUptoCardSaid : Prop := Claim7.holds Tryd.pinned (.plain (OpenSpec.upto cardsEachSpec)) cardsEachUptoCard

/-- THE SECOND FORM's CARD OF 'gamehallkeep2.CardsCuts'. -/
def cardsCutsUptoCard : Claim7 := { stood := { row := cardsCutsUptoRow, standIns := [], harness := (true, "d5b3aba079208ca126dc810aaeb3065c59b42bcf471660086c8bd28f4c4092c5"), looks := false }, kinds := [], alts := [], laidByText := true, laidKinds := [.data, .pinned], laidTests := true, laidLooks := .later }
def CardsCutsUptoCardSaid : Prop := Claim7.holds Tryd.pinned (.plain (OpenSpec.upto cardsCutsSpec)) cardsCutsUptoCard
end Rows
end Go.Proofs.YtaahakhmcodaiaaDoor
