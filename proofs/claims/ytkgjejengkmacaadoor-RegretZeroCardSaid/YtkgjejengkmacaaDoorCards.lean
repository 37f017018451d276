/-
  DERIVED. GIVEN WITH THE SEED: THE CARDS: each row of YtkgjejengkmacaaDoorRows.lean that lists a variable, with what it lists TIED to the program's text (the seventh form; the later family's looks); each row that meets fmt, with fmt's text TOLD by the authors' own Lean function (tested against real Go, not proved from fmt's source: count such statements apart). THE CARD IS WHAT COUNTS. Prove the row's statement (the work); the ties are given (YtkgjejengkmacaaDoorTie.lean); close each card by the builder's one call (the guide's Derived/Test/ToyasCard.lean, 'card_holds'). Laid BY PROGRAM, IN A SANDBOX (cutbox-door.mjs). By AI agents, Wed Nov 11 2026. No macro, syntax, notation, axiom, sorry.
-/
import Derived.Test.YtkgjejengkmacaaDoorRows
import GoSem.ClaimSeven
namespace Go.Proofs.YtkgjejengkmacaaDoor
namespace Rows

/-- THE TIED CARD OF 'gamehallkeep2.RegretContinues'. -/
def regretContinuesCard : Claim7 := { stood := { row := regretContinuesRow, standIns := [], harness := (true, "2e10c5320f8bd745767d214be0298859ea3c3f073d601ee0b71d5751ffcba404"), looks := false }, kinds := [], alts := [], laidByText := true, laidKinds := [.data, .pinned], laidTests := true, laidLooks := .later }
def RegretContinuesCardSaid : Prop := Claim7.holds Tryd.pinned (.plain (OpenSpec.ofChange regretContinuesSpec)) regretContinuesCard

/-- THE TIED CARD OF 'gamehallkeep2.RegretMatched'. -/
def regretMatchedCard : Claim7 := { stood := { row := regretMatchedRow, standIns := [], harness := (true, "2e10c5320f8bd745767d214be0298859ea3c3f073d601ee0b71d5751ffcba404"), looks := false }, kinds := [], alts := [], laidByText := true, laidKinds := [.data, .pinned], laidTests := true, laidLooks := .later }
def RegretMatchedCardSaid : Prop := Claim7.holds Tryd.pinned (.plain (OpenSpec.ofChange regretMatchedSpec)) regretMatchedCard

/-- THE TIED CARD OF 'gamehallkeep2.RegretZero'. -/
def regretZeroCard : Claim7 := { stood := { row := regretZeroRow, standIns := [], harness := (true, "2e10c5320f8bd745767d214be0298859ea3c3f073d601ee0b71d5751ffcba404"), looks := false }, kinds := [], alts := [], laidByText := true, laidKinds := [.data, .pinned], laidTests := true, laidLooks := .later }
def RegretZeroCardSaid : Prop := Claim7.holds Tryd.pinned (.plain (OpenSpec.ofChange regretZeroSpec)) regretZeroCard

/-- THE SECOND FORM's CARD OF 'gamehallkeep2.RegretContinues'. -/
def regretContinuesUptoCard : Claim7 := { stood := { row := regretContinuesUptoRow, standIns := [], harness := (true, "2e10c5320f8bd745767d214be0298859ea3c3f073d601ee0b71d5751ffcba404"), looks := false }, kinds := [], alts := [], laidByText := true, laidKinds := [.data, .pinned], laidTests := true, laidLooks := .later }
def RegretContinuesUptoCardSaid : Prop := Claim7.holds Tryd.pinned (.plain (OpenSpec.upto regretContinuesSpec)) regretContinuesUptoCard

/-- THE SECOND FORM's CARD OF 'gamehallkeep2.RegretMatched'. -/
def regretMatchedUptoCard : Claim7 := { stood := { row := regretMatchedUptoRow, standIns := [], harness := (true, "2e10c5320f8bd745767d214be0298859ea3c3f073d601ee0b71d5751ffcba404"), looks := false }, kinds := [], alts := [], laidByText := true, laidKinds := [.data, .pinned], laidTests := true, laidLooks := .later }
def RegretMatchedUptoCardSaid : Prop := Claim7.holds Tryd.pinned (.plain (OpenSpec.upto regretMatchedSpec)) regretMatchedUptoCard

/-- THE SECOND FORM's CARD OF 'gamehallkeep2.RegretZero'. -/
def regretZeroUptoCard : Claim7 := { stood := { row := regretZeroUptoRow, standIns := [], harness := (true, "2e10c5320f8bd745767d214be0298859ea3c3f073d601ee0b71d5751ffcba404"), looks := false }, kinds := [], alts := [], laidByText := true, laidKinds := [.data, .pinned], laidTests := true, laidLooks := .later }
def RegretZeroUptoCardSaid : Prop := Claim7.holds Tryd.pinned (.plain (OpenSpec.upto regretZeroSpec)) regretZeroUptoCard
end Rows
end Go.Proofs.YtkgjejengkmacaaDoor
