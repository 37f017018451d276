/- Proved: what CardsReads says of every input; the listed variables are tied to the program (the card). Conditions: none besides. -/
import Derived.Test.YtbbgmlfelhjkaaaDoorCards
import Derived.Test.YtbbgmlfelhjkaaaDoorTie
import Derived.Test.YtbbgmlfelhjkaaaDoorD
import Derived.Lay
import Derived.WalkKit
import Derived.ProofKit
import Derived.ShutString
import Derived.SevenTiedAt
namespace Go.Proofs.YtbbgmlfelhjkaaaDoor.cardsReads
open Go Vm
theorem own : ownKnob Tryd.prog.godebug = none := by kernel_rfl
theorem laidOut : laidOutB Tryd.prog = true := by kernel_rfl
theorem lifted (os : Os) (started : os.Started) (H : Type) (enc : TypeId × Value → H) :
    ReturnsInHanded {} Tryd.checked os 3 .any (fun w args => (Rows.cardsReadsSpec.pre enc Tryd.prog Tryd.f3 Rows.cardsReadsRow.domain false w args ∧ laidMetH Tryd.prog Rows.cardsReadsRow.laid w) ∧ sizedMet enc Tryd.prog Tryd.f3 (OpenSpec.ofChange Rows.cardsReadsSpec) false w args) (Rows.cardsReadsSpec.post enc Tryd.prog Tryd.f3 false true false false) :=
  law_laid (C := Tryd.checked) (E := ⟨te, [], []⟩) (s := Rows.cardsReadsSpec) own started (by kernel_rfl) Tryd.func3
    (ChangeSpec.witness_shaped (enc := enc) (C := Tryd.checked) (os := os) (X := fun w _ => laidMetH Tryd.prog Rows.cardsReadsRow.laid w) false (World.laidAll Tryd.prog os Rows.cardsReadsRow.laid) #[.slice none 0 0, .string ByteArray.empty] 8 (World.laidAll_os _ _ _)
      (World.shaped_of_ZipB (by kernel_rfl) (by kernel_rfl)) (by kernel_rfl) (by kernel_rfl) (by kernel_rfl)
      (by rw [MakeChecks.laidMetH_plain _ _ _ (by kernel_rfl)]; exact laidMet_laidAll _ (by kernel_rfl) (by kernel_rfl)))
    ok laidOut (by kernel_rfl) (by kernel_rfl) (by kernel_rfl) Tryd.underlying4 rfl
    (fun ds h => by
      have h : ds.length = 2 := h
      match ds, h with
      | [d0, d1], _ => exact ⟨rfl, rfl, rfl⟩)
    f3_holds cardsReads_plain
theorem over : Rows.cardsReadsRow.holds Tryd.pinned (OpenSpec.ofChange Rows.cardsReadsSpec) :=
  OpenClaim.holds_of_wide 3 Tryd.f3 rfl rfl rfl rfl rfl rfl rfl ⟨rfl, rfl, rfl, rfl, rfl⟩ rfl rfl rfl rfl rfl (by kernel_rfl) Tryd.func3 (by kernel_rfl)
    (of_decide_eq_true (by kernel_rfl)) (by unfold Func.isWrapper; first | (rw [if_pos (by decide +kernel)]; kernel_rfl) | (rw [if_neg (by decide +kernel)]; exact ⟨rfl, rfl⟩))
    (fun os started H enc _ => lifted os started H enc)
end Go.Proofs.YtbbgmlfelhjkaaaDoor.cardsReads
namespace Go.Proofs.YtbbgmlfelhjkaaaDoor
open Go
theorem cardsReads_holds : Rows.CardsReadsSaid := cardsReads.over
theorem cardsReads_card : Rows.CardsReadsCardSaid :=
  Claim7.holds_tied_plain_at .later [] [.data, .pinned] true (true, "775b98b1fa0f82b5a3f5ffc092efee6d2f88d9423b6f0872c91092d03a7e24d2") false
    cardsReads_holds (fun _ h => by cases h) (by kernel_rfl) (fun _ h => by cases h) cardsReads_row_tie rfl ⟨rfl, rfl⟩ (by kernel_rfl) rfl
    (fun f fn hf hfn => by
      obtain rfl : f = 3 := Option.some.inj ((show Tryd.prog.funcNamed "gamehall/gamehallkeep2.CardsReads" = some 3 by kernel_rfl).symm.trans hf) |>.symm
      obtain rfl : fn = Tryd.f3 := (Option.some.inj (Tryd.func3.symm.trans hfn)).symm
      exact ⟨by kernel_rfl, fun j t ht => by
        rw [Tryd.params3] at ht
        have hm : t ∈ [22, 9] := by simpa using Array.mem_of_getElem? ht
        have hall : ([22, 9].all fun u => !Tryd.prog.wantsStandIn u) = true := by kernel_rfl
        exact (show Tryd.prog.wantsStandIn t = false by simpa using List.all_eq_true.1 hall t hm)⟩)
    (by kernel_rfl)
end Go.Proofs.YtbbgmlfelhjkaaaDoor
#print axioms Go.Proofs.YtbbgmlfelhjkaaaDoor.cardsReads_card

