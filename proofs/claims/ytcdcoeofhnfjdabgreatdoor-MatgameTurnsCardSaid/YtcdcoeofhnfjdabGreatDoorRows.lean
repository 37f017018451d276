/-
  NARROWER THAN 'FOR EVERY INPUT', by the rows' own cells (each row's printed sentence says how): MatgameShifts: laid · MatgameDrops: laid · MatgameTurns: laid.
  DERIVED. THE GIVEN ROWS OF THIS SEAT. 3 by the template 'for every input the law returns true; each argument reads behind the call as it read before'; 0 by the template 'total and deterministic' (their statements: YtcdcoeofhnfjdabGreatDoorTotals.lean).
  GIVEN WITH THE SEED: the statements are not yours to turn. If you find one false, say at which input.
  Laid BY PROGRAM, IN A SANDBOX (cutbox-rows.mjs): the forced cells as the released guide's own fill.sh prints them over the translation bdf1c099a3485005… (all of the seat's roots in one cut). By AI agents, Wed Nov 11 2026. No macro, syntax, notation, axiom, sorry.
-/
import Derived.Test.YtcdcoeofhnfjdabGreatDoorChecked
import GoSem.PinnedTables
import GoSem.Claim
import GoSem.ClaimJoined
import GoSem.ClaimMapViews
import Derived.JoinedTies
import Derived.KernelRfl
namespace Go.Proofs.YtcdcoeofhnfjdabGreatDoor
/- THE CELL 'sum', in the pinned program and in every row, IS THE sha256 OF THE DUMP (.gsa) THAT YtcdcoeofhnfjdabGreatDoorProg.lean LOADS. Nothing in Lean hashes anything: it is a label: what it is worth is what the hold of that sum in a sandbox is worth. -/
noncomputable def Tryz.pinned : Pinned := { name := "ytcdcoeofhnfjdabgreatdoor", sum := "bdf1c099a3485005fc06b6cc8a8cbcfdcc647b46dfb342d920ec42be65a7e57b", checked := Tryz.checked }
namespace Rows
def none {H : Type} : Left H := { results := [], args := [] }

/- WHAT THE LISTED PACKAGE-LEVEL VARIABLES READ AS WHEN THE CALL BEGINS. Each datum BY PROGRAM (the guide's laid-datum.mjs) off the statement by which the dump's own 'gosem.cut.vars' lays the variable. In a bare row this is a premise. The card (YtcdcoeofhnfjdabGreatDoorCards.lean) ties it to the program's text. -/
def laid_unicode_utf8_acceptRanges {H : Type} : DataW H := .agg [.agg [.lit (.int .u8 128), .lit (.int .u8 191)], .agg [.lit (.int .u8 160), .lit (.int .u8 191)], .agg [.lit (.int .u8 128), .lit (.int .u8 159)], .agg [.lit (.int .u8 144), .lit (.int .u8 191)], .agg [.lit (.int .u8 128), .lit (.int .u8 143)], .agg [.lit (.int .u8 0), .lit (.int .u8 0)], .agg [.lit (.int .u8 0), .lit (.int .u8 0)], .agg [.lit (.int .u8 0), .lit (.int .u8 0)], .agg [.lit (.int .u8 0), .lit (.int .u8 0)], .agg [.lit (.int .u8 0), .lit (.int .u8 0)], .agg [.lit (.int .u8 0), .lit (.int .u8 0)], .agg [.lit (.int .u8 0), .lit (.int .u8 0)], .agg [.lit (.int .u8 0), .lit (.int .u8 0)], .agg [.lit (.int .u8 0), .lit (.int .u8 0)], .agg [.lit (.int .u8 0), .lit (.int .u8 0)], .agg [.lit (.int .u8 0), .lit (.int .u8 0)]]
/-- One of Go's own tables, pinned by name: the form's constant. -/
def laid_unicode_utf8_first : DataW Unit := Go.Pinned.utf8First

/-- 'gamehallkeep2.MatgameShifts': WHATEVER THE INPUT: true; the input reads as it did. -/
def matgameShiftsSpec : ChangeSpec := { name := "matgameShifts", fn := fun _ => fun
  | [d1, d2, d3] => { results := [.lit (.bool true)], args := [d1, d2, d3] }
  | _ => none }
def matgameShiftsRow : OpenClaim := { program := "ytcdcoeofhnfjdabgreatdoor", sum := "bdf1c099a3485005fc06b6cc8a8cbcfdcc647b46dfb342d920ec42be65a7e57b", func := "gamehall/gamehallkeep2.MatgameShifts", spec := "matgameShifts", inPlace := ["internal/bytealg.IndexByteString", "internal/bytealg.IndexString"], unfollowed := true, recurses := true, named := ["internal/bytealg.MaxLen", "unicode/utf8.first", "unicode/utf8.acceptRanges"], apart := false, laid := [("unicode/utf8.acceptRanges", laid_unicode_utf8_acceptRanges), ("unicode/utf8.first", laid_unicode_utf8_first)] }
def MatgameShiftsSaid : Prop := matgameShiftsRow.holds Tryz.pinned (OpenSpec.ofChange matgameShiftsSpec)

/-- ITS FALSE NEIGHBOUR: 'it returns false'. Refute it at one input. -/
def matgameShiftsWrong : ChangeSpec := { name := "matgameShifts", fn := fun _ => fun
  | [d1, d2, d3] => { results := [.lit (.bool false)], args := [d1, d2, d3] }
  | _ => none }
def MatgameShiftsWrongFalsely : Prop := matgameShiftsRow.holds Tryz.pinned (OpenSpec.ofChange matgameShiftsWrong)

/-- 'gamehallkeep2.MatgameDrops': WHATEVER THE INPUT: true; the input reads as it did. -/
def matgameDropsSpec : ChangeSpec := { name := "matgameDrops", fn := fun _ => fun
  | [d] => { results := [.lit (.bool true)], args := [d] }
  | _ => none }
def matgameDropsRow : OpenClaim := { program := "ytcdcoeofhnfjdabgreatdoor", sum := "bdf1c099a3485005fc06b6cc8a8cbcfdcc647b46dfb342d920ec42be65a7e57b", func := "gamehall/gamehallkeep2.MatgameDrops", spec := "matgameDrops", inPlace := ["internal/bytealg.IndexByteString", "internal/bytealg.IndexString"], unfollowed := true, recurses := true, named := ["internal/bytealg.MaxLen", "unicode/utf8.first", "unicode/utf8.acceptRanges"], apart := false, laid := [("unicode/utf8.acceptRanges", laid_unicode_utf8_acceptRanges), ("unicode/utf8.first", laid_unicode_utf8_first)] }
def MatgameDropsSaid : Prop := matgameDropsRow.holds Tryz.pinned (OpenSpec.ofChange matgameDropsSpec)

/-- ITS FALSE NEIGHBOUR: 'it returns false'. Refute it at one input. -/
def matgameDropsWrong : ChangeSpec := { name := "matgameDrops", fn := fun _ => fun
  | [d] => { results := [.lit (.bool false)], args := [d] }
  | _ => none }
def MatgameDropsWrongFalsely : Prop := matgameDropsRow.holds Tryz.pinned (OpenSpec.ofChange matgameDropsWrong)

/-- 'gamehallkeep2.MatgameTurns': WHATEVER THE INPUT: true; the input reads as it did. -/
def matgameTurnsSpec : ChangeSpec := { name := "matgameTurns", fn := fun _ => fun
  | [d] => { results := [.lit (.bool true)], args := [d] }
  | _ => none }
def matgameTurnsRow : OpenClaim := { program := "ytcdcoeofhnfjdabgreatdoor", sum := "bdf1c099a3485005fc06b6cc8a8cbcfdcc647b46dfb342d920ec42be65a7e57b", func := "gamehall/gamehallkeep2.MatgameTurns", spec := "matgameTurns", inPlace := ["internal/bytealg.IndexByteString", "internal/bytealg.IndexString"], unfollowed := true, recurses := true, named := ["internal/bytealg.MaxLen", "unicode/utf8.first", "unicode/utf8.acceptRanges"], apart := false, laid := [("unicode/utf8.acceptRanges", laid_unicode_utf8_acceptRanges), ("unicode/utf8.first", laid_unicode_utf8_first)] }
def MatgameTurnsSaid : Prop := matgameTurnsRow.holds Tryz.pinned (OpenSpec.ofChange matgameTurnsSpec)

/-- ITS FALSE NEIGHBOUR: 'it returns false'. Refute it at one input. -/
def matgameTurnsWrong : ChangeSpec := { name := "matgameTurns", fn := fun _ => fun
  | [d] => { results := [.lit (.bool false)], args := [d] }
  | _ => none }
def MatgameTurnsWrongFalsely : Prop := matgameTurnsRow.holds Tryz.pinned (OpenSpec.ofChange matgameTurnsWrong)

/- THE SECOND FORM. 'bulk': how many values and letters a reading holds, each counted each time it is reached (what is shared counts as often as it is met; a slice's spare places count too). A statement '..UptoSaid' is the law's where the arguments, and the package variables that the reading takes, are together of bulk at most 1048576: NARROWER than '..Said'. Prove '..Said' where nothing that the law and all that it calls make is longer than what came in: it says more and counts as full. Else prove '..UptoSaid'. A law counts once. -/
mutual
def uptoBulk {H : Type} : DataW H → Nat
  | .lit (.string bytes) => bytes.length + 1
  | .lit _ => 1
  | .nil => 1
  | .ptr d => uptoBulk d + 1
  | .slice elems spare => uptoBulkAll elems + uptoBulkAll spare + 1
  | .agg parts => uptoBulkAll parts + 1
  | .iface _ d => uptoBulk d + 1
  | .map entries => uptoBulkEntries entries + 1
  | .held _ => 1
def uptoBulkAll {H : Type} : List (DataW H) → Nat
  | [] => 0
  | d :: r => uptoBulk d + uptoBulkAll r
def uptoBulkEntries {H : Type} : List (Lit × DataW H) → Nat
  | [] => 0
  | x :: r => uptoBulkEntry x + uptoBulkEntries r
def uptoBulkEntry {H : Type} : Lit × DataW H → Nat
  | (.string bytes, d) => bytes.length + uptoBulk d + 1
  | (_, d) => uptoBulk d + 1
 end
def uptoSmall : (H : Type) → List (DataW H) → Bool := fun _ ds => decide (uptoBulkAll ds ≤ 1048576)
def OpenSpec.upto (s : _root_.Go.ChangeSpec) : _root_.Go.OpenSpec := { _root_.Go.OpenSpec.ofChange s with cond := some uptoSmall }

/-- 'gamehallkeep2.MatgameShifts', WHERE WHAT IT READS IS OF BULK AT MOST 1048576: true; the input reads as it did. -/
def matgameShiftsUptoRow : OpenClaim := { program := "ytcdcoeofhnfjdabgreatdoor", sum := "bdf1c099a3485005fc06b6cc8a8cbcfdcc647b46dfb342d920ec42be65a7e57b", func := "gamehall/gamehallkeep2.MatgameShifts", spec := "matgameShifts", inPlace := ["internal/bytealg.IndexByteString", "internal/bytealg.IndexString"], unfollowed := true, recurses := true, named := ["internal/bytealg.MaxLen", "unicode/utf8.first", "unicode/utf8.acceptRanges"], apart := false, laid := [("unicode/utf8.acceptRanges", laid_unicode_utf8_acceptRanges), ("unicode/utf8.first", laid_unicode_utf8_first)], narrowed := true }
def MatgameShiftsUptoSaid : Prop := matgameShiftsUptoRow.holds Tryz.pinned (OpenSpec.upto matgameShiftsSpec)

/-- 'gamehallkeep2.MatgameDrops', WHERE WHAT IT READS IS OF BULK AT MOST 1048576: true; the input reads as it did. -/
def matgameDropsUptoRow : OpenClaim := { program := "ytcdcoeofhnfjdabgreatdoor", sum := "bdf1c099a3485005fc06b6cc8a8cbcfdcc647b46dfb342d920ec42be65a7e57b", func := "gamehall/gamehallkeep2.MatgameDrops", spec := "matgameDrops", inPlace := ["internal/bytealg.IndexByteString", "internal/bytealg.IndexString"], unfollowed := true, recurses := true, named := ["internal/bytealg.MaxLen", "unicode/utf8.first", "unicode/utf8.acceptRanges"], apart := false, laid := [("unicode/utf8.acceptRanges", laid_unicode_utf8_acceptRanges), ("unicode/utf8.first", laid_unicode_utf8_first)], narrowed := true }
def MatgameDropsUptoSaid : Prop := matgameDropsUptoRow.holds Tryz.pinned (OpenSpec.upto matgameDropsSpec)

/-- 'gamehallkeep2.MatgameTurns', WHERE WHAT IT READS IS OF BULK AT MOST 1048576: true; the input reads as it did. -/
def matgameTurnsUptoRow : OpenClaim := { program := "ytcdcoeofhnfjdabgreatdoor", sum := "bdf1c099a3485005fc06b6cc8a8cbcfdcc647b46dfb342d920ec42be65a7e57b", func := "gamehall/gamehallkeep2.MatgameTurns", spec := "matgameTurns", inPlace := ["internal/bytealg.IndexByteString", "internal/bytealg.IndexString"], unfollowed := true, recurses := true, named := ["internal/bytealg.MaxLen", "unicode/utf8.first", "unicode/utf8.acceptRanges"], apart := false, laid := [("unicode/utf8.acceptRanges", laid_unicode_utf8_acceptRanges), ("unicode/utf8.first", laid_unicode_utf8_first)], narrowed := true }
def MatgameTurnsUptoSaid : Prop := matgameTurnsUptoRow.holds Tryz.pinned (OpenSpec.upto matgameTurnsSpec)

end Rows
end Go.Proofs.YtcdcoeofhnfjdabGreatDoor
