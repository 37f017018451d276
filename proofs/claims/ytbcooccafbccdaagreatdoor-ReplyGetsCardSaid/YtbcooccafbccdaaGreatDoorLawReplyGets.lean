/- Proved: what ReplyGets says of every input; the listed variables are tied to the program (the card). Conditions: none besides. -/
import Derived.Test.YtbcooccafbccdaaGreatDoorCards
import Derived.Test.YtbcooccafbccdaaGreatDoorTie
import Derived.Test.YtbcooccafbccdaaGreatDoorWj
import Derived.Lay
import Derived.WalkKit
import Derived.ProofKit
import Derived.ShutString
import Derived.SevenTiedAt
namespace Go.Proofs.YtbcooccafbccdaaGreatDoor.replyGets
open Go Vm
theorem own : ownKnob Tryz.prog.godebug = none := by kernel_rfl
theorem laidOut : laidOutB Tryz.prog = true := by kernel_rfl
theorem lifted (os : Os) (started : os.Started) (H : Type) (enc : TypeId × Value → H) :
    ReturnsInHanded {} Tryz.checked os 4 .any (fun w args => (Rows.replyGetsSpec.pre enc Tryz.prog Tryz.f4 Rows.replyGetsRow.domain false w args ∧ laidMetH Tryz.prog Rows.replyGetsRow.laid w) ∧ sizedMet enc Tryz.prog Tryz.f4 (OpenSpec.ofChange Rows.replyGetsSpec) false w args) (Rows.replyGetsSpec.post enc Tryz.prog Tryz.f4 false true false false) :=
  law_laid (C := Tryz.checked) (E := { te := tep, spec := [], body := [] }) (s := Rows.replyGetsSpec) own started (by kernel_rfl) Tryz.func4
    (ChangeSpec.witness_shaped (enc := enc) (C := Tryz.checked) (os := os) (X := fun w _ => laidMetH Tryz.prog Rows.replyGetsRow.laid w) false (World.laidAll Tryz.prog os Rows.replyGetsRow.laid) #[.slice none 0 0, .int .i64 0, .slice none 0 0] 8 (World.laidAll_os _ _ _)
      (World.shaped_of_ZipB (by kernel_rfl) (by kernel_rfl)) (by kernel_rfl) (by kernel_rfl) (by kernel_rfl)
      (by rw [MakeChecks.laidMetH_plain _ _ _ (by kernel_rfl)]; exact laidMet_laidAll _ (by kernel_rfl) (by kernel_rfl)))
    okp laidOut (by kernel_rfl) (by kernel_rfl) (by kernel_rfl) Tryz.underlying4 rfl
    (fun ds h => by
      have h : ds.length = 3 := h
      match ds, h with
      | [d0, d1, d2], _ => exact ⟨rfl, rfl, rfl⟩)
    f_gamehallkeep2_ReplyGets_holds replyGets_plain
theorem over : Rows.replyGetsRow.holds Tryz.pinned (OpenSpec.ofChange Rows.replyGetsSpec) :=
  OpenClaim.holds_of_wide 4 Tryz.f4 rfl rfl rfl rfl rfl rfl rfl ⟨rfl, rfl, rfl, rfl, rfl⟩ rfl rfl rfl rfl rfl (by kernel_rfl) Tryz.func4 (by kernel_rfl)
    (of_decide_eq_true (by kernel_rfl)) (by unfold Func.isWrapper; first | (rw [if_pos (by decide +kernel)]; kernel_rfl) | (rw [if_neg (by decide +kernel)]; exact ⟨rfl, rfl⟩))
    (fun os started H enc _ => lifted os started H enc)
end Go.Proofs.YtbcooccafbccdaaGreatDoor.replyGets
namespace Go.Proofs.YtbcooccafbccdaaGreatDoor
open Go
theorem replyGets_holds : Rows.ReplyGetsSaid := replyGets.over
theorem replyGets_card : Rows.ReplyGetsCardSaid :=
  Claim7.holds_tied_plain_at .later [] [.data, .pinned] true (true, "f07973fbcf431aa23b2cb3f71c0f1f4e67b975b44ab5dccd7d0b2029dfa146cc") false
    replyGets_holds (fun _ h => by cases h) (by kernel_rfl) (fun _ h => by cases h) replyGets_row_tie rfl ⟨rfl, rfl⟩ (by kernel_rfl) rfl
    (fun f fn hf hfn => by
      obtain rfl : f = 4 := Option.some.inj ((show Tryz.prog.funcNamed "gamehall/gamehallkeep2.ReplyGets" = some 4 by kernel_rfl).symm.trans hf) |>.symm
      obtain rfl : fn = Tryz.f4 := (Option.some.inj (Tryz.func4.symm.trans hfn)).symm
      exact ⟨by kernel_rfl, fun j t ht => by
        rw [Tryz.params4] at ht
        have hm : t ∈ [22, 3, 23] := by simpa using Array.mem_of_getElem? ht
        have hall : ([22, 3, 23].all fun u => !Tryz.prog.wantsStandIn u) = true := by kernel_rfl
        exact (show Tryz.prog.wantsStandIn t = false by simpa using List.all_eq_true.1 hall t hm)⟩)
    (by kernel_rfl)
end Go.Proofs.YtbcooccafbccdaaGreatDoor
#print axioms Go.Proofs.YtbcooccafbccdaaGreatDoor.replyGets_card
