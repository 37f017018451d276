/- Proved: what MatgameTurns says of every input; the listed variables are tied to the program (the card). Conditions: none besides. -/
import Derived.Test.YtcdcoeofhnfjdabGreatDoorCards
import Derived.Test.YtcdcoeofhnfjdabGreatDoorTie
import Derived.Test.YtcdcoeofhnfjdabGreatDoorL3
import Derived.Lay
import Derived.WalkKit
import Derived.ProofKit
import Derived.ShutString
import Derived.SevenTiedAt
namespace Go.Proofs.YtcdcoeofhnfjdabGreatDoor.matgameTurns
open Go Vm
theorem own : ownKnob Tryz.prog.godebug = none := by kernel_rfl
theorem laidOut : laidOutB Tryz.prog = true := by kernel_rfl
theorem lifted (os : Os) (started : os.Started) (H : Type) (enc : TypeId × Value → H) :
    ReturnsInHanded {} Tryz.checked os 5 .any (fun w args => (Rows.matgameTurnsSpec.pre enc Tryz.prog Tryz.f5 Rows.matgameTurnsRow.domain false w args ∧ laidMetH Tryz.prog Rows.matgameTurnsRow.laid w) ∧ sizedMet enc Tryz.prog Tryz.f5 (OpenSpec.ofChange Rows.matgameTurnsSpec) false w args) (Rows.matgameTurnsSpec.post enc Tryz.prog Tryz.f5 false true false false) :=
  wo8 (C := Tryz.checked) (E := { te := te, spec := [], body := [] }) (s := Rows.matgameTurnsSpec) own started (by kernel_rfl) Tryz.func5
    (ChangeSpec.witness_shaped (enc := enc) (C := Tryz.checked) (os := os) (X := fun w _ => laidMetH Tryz.prog Rows.matgameTurnsRow.laid w) false (World.laidAll Tryz.prog os Rows.matgameTurnsRow.laid) #[.slice none 0 0] 8 (World.laidAll_os _ _ _)
      (World.shaped_of_ZipB (by kernel_rfl) (by kernel_rfl)) (by kernel_rfl) (by kernel_rfl) (by kernel_rfl)
      (by rw [MakeChecks.laidMetH_plain _ _ _ (by kernel_rfl)]; exact laidMet_laidAll _ (by kernel_rfl) (by kernel_rfl)))
    ok laidOut (by kernel_rfl) (by kernel_rfl) (by kernel_rfl) Tryz.underlying4 rfl
    (fun ds h => by
      have h : ds.length = 1 := h
      match ds, h with
      | [d0], _ => exact ⟨rfl, rfl, rfl⟩)
    zc8 matgameTurns_plain
theorem over : Rows.matgameTurnsRow.holds Tryz.pinned (OpenSpec.ofChange Rows.matgameTurnsSpec) :=
  OpenClaim.holds_of_wide 5 Tryz.f5 rfl rfl rfl rfl rfl rfl rfl ⟨rfl, rfl, rfl, rfl, rfl⟩ rfl rfl rfl rfl rfl (by kernel_rfl) Tryz.func5 (by kernel_rfl)
    (of_decide_eq_true (by kernel_rfl)) (by unfold Func.isWrapper; first | (rw [if_pos (by decide +kernel)]; kernel_rfl) | (rw [if_neg (by decide +kernel)]; exact ⟨rfl, rfl⟩))
    (fun os started H enc _ => lifted os started H enc)
end Go.Proofs.YtcdcoeofhnfjdabGreatDoor.matgameTurns
namespace Go.Proofs.YtcdcoeofhnfjdabGreatDoor
open Go
theorem matgameTurns_holds : Rows.MatgameTurnsSaid := matgameTurns.over
theorem matgameTurns_card : Rows.MatgameTurnsCardSaid :=
  Claim7.holds_tied_plain_at .later [] [.data, .pinned] true (true, "171b7e86132f0a4bf917191a82a83969f69400aaad359aa7d60c25b2e6dc3042") false
    matgameTurns_holds (fun _ h => by cases h) (by kernel_rfl) (fun _ h => by cases h) matgameTurns_row_tie rfl ⟨rfl, rfl⟩ (by kernel_rfl) rfl
    (fun f fn hf hfn => by
      obtain rfl : f = 5 := Option.some.inj ((show Tryz.prog.funcNamed "gamehall/gamehallkeep2.MatgameTurns" = some 5 by kernel_rfl).symm.trans hf) |>.symm
      obtain rfl : fn = Tryz.f5 := (Option.some.inj (Tryz.func5.symm.trans hfn)).symm
      exact ⟨by kernel_rfl, fun j t ht => by
        rw [Tryz.params5] at ht
        have hm : t ∈ [23] := by simpa using Array.mem_of_getElem? ht
        have hall : ([23].all fun u => !Tryz.prog.wantsStandIn u) = true := by kernel_rfl
        exact (show Tryz.prog.wantsStandIn t = false by simpa using List.all_eq_true.1 hall t hm)⟩)
    (by kernel_rfl)
end Go.Proofs.YtcdcoeofhnfjdabGreatDoor
#print axioms Go.Proofs.YtcdcoeofhnfjdabGreatDoor.matgameTurns_card
