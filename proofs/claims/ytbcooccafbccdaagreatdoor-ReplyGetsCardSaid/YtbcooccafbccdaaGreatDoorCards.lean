/-
  DERIVED. GIVEN WITH THE SEED: THE CARDS: each row of YtbcooccafbccdaaGreatDoorRows.lean that lists a variable, with what it lists TIED to the program's text (the seventh form; the later family's looks); each row that meets fmt, with fmt's text TOLD by the authors' own Lean function (tested against real Go, not proved from fmt's source: count such statements apart). THE CARD IS WHAT COUNTS. Prove the row's statement (the work); the ties are given (YtbcooccafbccdaaGreatDoorTie.lean); close each card by the builder's one call (the guide's Derived/Test/ToyasCard.lean, 'card_holds'). Laid BY PROGRAM, IN A SANDBOX (cutbox-door.mjs). By AI agents, Wed Nov 11 2026. No macro, syntax, notation, axiom, sorry.
-/
import Derived.Test.YtbcooccafbccdaaGreatDoorRows
import GoSem.ClaimSeven
namespace Go.Proofs.YtbcooccafbccdaaGreatDoor
namespace Rows

/-- THE TIED CARD OF 'gamehallkeep2.ReplyEnds'. -/
def replyEndsCard : Claim7 := { stood := { row := replyEndsRow, standIns := [], harness := (true, "f07973fbcf431aa23b2cb3f71c0f1f4e67b975b44ab5dccd7d0b2029dfa146cc"), looks := false }, kinds := [], alts := [], laidByText := true, laidKinds := [.data, .pinned], laidTests := true, laidLooks := .later }
def ReplyEndsCardSaid : Prop := Claim7.holds Tryz.pinned (.plain (OpenSpec.ofChange replyEndsSpec)) replyEndsCard

/-- THE TIED CARD OF 'gamehallkeep2.ReplyGets'. -/
def replyGetsCard : Claim7 := { stood := { row := replyGetsRow, standIns := [], harness := (true, "f07973fbcf431aa23b2cb3f71c0f1f4e67b975b44ab5dccd7d0b2029dfa146cc"), looks := false }, kinds := [], alts := [], laidByText := true, laidKinds := [.data, .pinned], laidTests := true, laidLooks := .later }
def ReplyGetsCardSaid : Prop := Claim7.holds Tryz.pinned (.plain (OpenSpec.ofChange replyGetsSpec)) replyGetsCard

/-- THE TIED CARD OF 'gamehallkeep2.ReplyMost'. -/
def replyMostCard : Claim7 := { stood := { row := replyMostRow, standIns := [], harness := (true, "f07973fbcf431aa23b2cb3f71c0f1f4e67b975b44ab5dccd7d0b2029dfa146cc"), looks := false }, kinds := [], alts := [], laidByText := true, laidKinds := [.data, .pinned], laidTests := true, laidLooks := .later }
def ReplyMostCardSaid : Prop := Claim7.holds Tryz.pinned (.plain (OpenSpec.ofChange replyMostSpec)) replyMostCard

/-- THE SECOND FORM's CARD OF 'gamehallkeep2.ReplyEnds'. -/
def replyEndsUptoCard : Claim7 := { stood := { row := replyEndsUptoRow, standIns := [], harness := (true, "f07973fbcf431aa23b2cb3f71c0f1f4e67b975b44ab5dccd7d0b2029dfa146cc"), looks := false }, kinds := [], alts := [], laidByText := true, laidKinds := [.data, .pinned], laidTests := true, laidLooks := .later }
def ReplyEndsUptoCardSaid : Prop := Claim7.holds Tryz.pinned (.plain (OpenSpec.upto replyEndsSpec)) replyEndsUptoCard

/-- THE SECOND FORM's CARD OF 'gamehallkeep2.ReplyGets'. -/
def replyGetsUptoCard : Claim7 := { stood := { row := replyGetsUptoRow, standIns := [], harness := (true, "f07973fbcf431aa23b2cb3f71c0f1f4e67b975b44ab5dccd7d0b2029dfa146cc"), looks := false }, kinds := [], alts := [], laidByText := true, laidKinds := [.data, .pinned], laidTests := true, laidLooks := .later }
def ReplyGetsUptoCardSaid : Prop := Claim7.holds Tryz.pinned (.plain (OpenSpec.upto replyGetsSpec)) replyGetsUptoCard

/-- THE SECOND FORM's CARD OF 'gamehallkeep2.ReplyMost'. -/
def replyMostUptoCard : Claim7 := { stood := { row := replyMostUptoRow, standIns := [], harness := (true, "f07973fbcf431aa23b2cb3f71c0f1f4e67b975b44ab5dccd7d0b2029dfa146cc"), looks := false }, kinds := [], alts := [], laidByText := true, laidKinds := [.data, .pinned], laidTests := true, laidLooks := .later }
def ReplyMostUptoCardSaid : Prop := Claim7.holds Tryz.pinned (.plain (OpenSpec.upto replyMostSpec)) replyMostUptoCard
end Rows
end Go.Proofs.YtbcooccafbccdaaGreatDoor
