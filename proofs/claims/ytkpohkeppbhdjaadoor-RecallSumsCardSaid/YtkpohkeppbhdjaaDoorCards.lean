/-
  DERIVED. GIVEN WITH THE SEED: THE CARDS: each row of YtkpohkeppbhdjaaDoorRows.lean that lists a variable, with what it lists TIED to the program's text (the seventh form; the later family's looks); each row that meets fmt, with fmt's text TOLD by the authors' own Lean function (tested against real Go, not proved from fmt's source: count such statements apart). THE CARD IS WHAT COUNTS. Prove the row's statement (the work); the ties are given (YtkpohkeppbhdjaaDoorTie.lean); close each card by the builder's one call (the guide's Derived/Test/ToyasCard.lean, 'card_holds'). Laid BY PROGRAM, IN A SANDBOX (cutbox-door.mjs). By AI agents, Wed Nov 11 2026. No macro, syntax, notation, axiom, sorry.
-/
import Derived.Test.YtkpohkeppbhdjaaDoorRows
import GoSem.ClaimSeven
namespace Go.Proofs.YtkpohkeppbhdjaaDoor
namespace Rows

/-- THE TIED CARD OF 'gamehallkeep2.RecallAlone'. -/
def recallAloneCard : Claim7 := { stood := { row := recallAloneRow, standIns := [], harness := (true, "8d650560c37502e7c2a89347bd82acff608553810f6cce266ad8a4e968010e03"), looks := false }, kinds := [], alts := [], laidByText := true, laidKinds := [.data, .pinned], laidTests := true, laidLooks := .later }
def RecallAloneCardSaid : Prop := Claim7.holds Tryd.pinned (.plain (OpenSpec.ofChange recallAloneSpec)) recallAloneCard

/-- THE TIED CARD OF 'gamehallkeep2.RecallNumbers'. -/
def recallNumbersCard : Claim7 := { stood := { row := recallNumbersRow, standIns := [], harness := (true, "8d650560c37502e7c2a89347bd82acff608553810f6cce266ad8a4e968010e03"), looks := false }, kinds := [], alts := [], laidByText := true, laidKinds := [.data, .pinned], laidTests := true, laidLooks := .later }
def RecallNumbersCardSaid : Prop := Claim7.holds Tryd.pinned (.plain (OpenSpec.ofChange recallNumbersSpec)) recallNumbersCard

/-- THE TIED CARD OF 'gamehallkeep2.RecallSums'. -/
def recallSumsCard : Claim7 := { stood := { row := recallSumsRow, standIns := [], harness := (true, "8d650560c37502e7c2a89347bd82acff608553810f6cce266ad8a4e968010e03"), looks := false }, kinds := [], alts := [], laidByText := true, laidKinds := [.data, .pinned], laidTests := true, laidLooks := .later }
def RecallSumsCardSaid : Prop := Claim7.holds Tryd.pinned (.plain (OpenSpec.ofChange recallSumsSpec)) recallSumsCard

/-- THE SECOND FORM's CARD OF 'gamehallkeep2.RecallAlone'. -/
def recallAloneUptoCard : Claim7 := { stood := { row := recallAloneUptoRow, standIns := [], harness := (true, "8d650560c37502e7c2a89347bd82acff608553810f6cce266ad8a4e968010e03"), looks := false }, kinds := [], alts := [], laidByText := true, laidKinds := [.data, .pinned], laidTests := true, laidLooks := .later }
def RecallAloneUptoCardSaid : Prop := Claim7.holds Tryd.pinned (.plain (OpenSpec.upto recallAloneSpec)) recallAloneUptoCard

/-- THE SECOND FORM's CARD OF 'gamehallkeep2.RecallNumbers'. -/
def recallNumbersUptoCard : Claim7 := { stood := { row := recallNumbersUptoRow, standIns := [], harness := (true, "8d650560c37502e7c2a89347bd82acff608553810f6cce266ad8a4e968010e03"), looks := false }, kinds := [], alts := [], laidByText := true, laidKinds := [.data, .pinned], laidTests := true, laidLooks := .later }
def RecallNumbersUptoCardSaid : Prop := Claim7.holds Tryd.pinned (.plain (OpenSpec.upto recallNumbersSpec)) recallNumbersUptoCard

/-- THE SECOND FORM's CARD OF 'gamehallkeep2.RecallSums'. -/
def recallSumsUptoCard : Claim7 := { stood := { row := recallSumsUptoRow, standIns := [], harness := (true, "8d650560c37502e7c2a89347bd82acff608553810f6cce266ad8a4e968010e03"), looks := false }, kinds := [], alts := [], laidByText := true, laidKinds := [.data, .pinned], laidTests := true, laidLooks := .later }
def RecallSumsUptoCardSaid : Prop := Claim7.holds Tryd.pinned (.plain (OpenSpec.upto recallSumsSpec)) recallSumsUptoCard
end Rows
end Go.Proofs.YtkpohkeppbhdjaaDoor
