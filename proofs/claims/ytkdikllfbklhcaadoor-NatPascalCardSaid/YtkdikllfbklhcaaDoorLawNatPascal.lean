/- Proved: what NatPascal says of every input; the listed variables are tied to the program (the card). Conditions: none besides. -/
import Derived.Test.YtkdikllfbklhcaaDoorCards
import Derived.Test.YtkdikllfbklhcaaDoorTie
import Derived.Test.YtkdikllfbklhcaaDoorNi
import Derived.Lay
import Derived.WalkKit
import Derived.ProofKit
import Derived.ShutString
import Derived.SevenTiedAt
namespace Go.Proofs.YtkdikllfbklhcaaDoor.natPascal
open Go Vm
theorem own : ownKnob Tryd.prog.godebug = none := by kernel_rfl
theorem laidOut : laidOutB Tryd.prog = true := by kernel_rfl
theorem lifted (os : Os) (started : os.Started) (H : Type) (enc : TypeId × Value → H) :
    ReturnsInHanded {} Tryd.checked os 6 .any (fun w args => (Rows.natPascalSpec.pre enc Tryd.prog Tryd.f6 Rows.natPascalRow.domain false w args ∧ laidMetH Tryd.prog Rows.natPascalRow.laid w) ∧ sizedMet enc Tryd.prog Tryd.f6 (OpenSpec.ofChange Rows.natPascalSpec) false w args) (Rows.natPascalSpec.post enc Tryd.prog Tryd.f6 false true false false) :=
  law_laid (C := Tryd.checked) (E := ⟨te, [], []⟩) (s := Rows.natPascalSpec) own started (by kernel_rfl) Tryd.func6
    (ChangeSpec.witness_shaped (enc := enc) (C := Tryd.checked) (os := os) (X := fun w _ => laidMetH Tryd.prog Rows.natPascalRow.laid w) false (World.laidAll Tryd.prog os Rows.natPascalRow.laid) #[.int .i64 0, .int .i64 0] 8 (World.laidAll_os _ _ _)
      (World.shaped_of_ZipB (by kernel_rfl) (by kernel_rfl)) (by kernel_rfl) (by kernel_rfl) (by kernel_rfl)
      (by rw [MakeChecks.laidMetH_plain _ _ _ (by kernel_rfl)]; exact laidMet_laidAll _ (by kernel_rfl) (by kernel_rfl)))
    ok laidOut (by kernel_rfl) (by kernel_rfl) (by kernel_rfl) Tryd.underlying4 rfl
    (fun ds h => by
      have h : ds.length = 2 := h
      match ds, h with
      | [d0, d1], _ => exact ⟨rfl, rfl, rfl⟩)
    f_gamehallkeep2_NatPascal_holds natPascal_plain
theorem over : Rows.natPascalRow.holds Tryd.pinned (OpenSpec.ofChange Rows.natPascalSpec) :=
  OpenClaim.holds_of_wide 6 Tryd.f6 rfl rfl rfl rfl rfl rfl rfl ⟨rfl, rfl, rfl, rfl, rfl⟩ rfl rfl rfl rfl rfl (by kernel_rfl) Tryd.func6 (by kernel_rfl)
    (of_decide_eq_true (by kernel_rfl)) (by unfold Func.isWrapper; first | (rw [if_pos (by decide +kernel)]; kernel_rfl) | (rw [if_neg (by decide +kernel)]; exact ⟨rfl, rfl⟩))
    (fun os started H enc _ => lifted os started H enc)
end Go.Proofs.YtkdikllfbklhcaaDoor.natPascal
namespace Go.Proofs.YtkdikllfbklhcaaDoor
open Go
theorem natPascal_holds : Rows.NatPascalSaid := natPascal.over
theorem natPascal_card : Rows.NatPascalCardSaid :=
  Claim7.holds_tied_plain_at .later [] [.data, .pinned] true (true, "cd5fded65131cdf5c0b30e39ab7da1acf6e2a7c0be58c071772f06709d1dcb3a") false
    natPascal_holds (fun _ h => by cases h) (by kernel_rfl) (fun _ h => by cases h) natPascal_row_tie rfl ⟨rfl, rfl⟩ (by kernel_rfl) rfl
    (fun f fn hf hfn => by
      obtain rfl : f = 6 := Option.some.inj ((show Tryd.prog.funcNamed "gamehall/gamehallkeep2.NatPascal" = some 6 by kernel_rfl).symm.trans hf) |>.symm
      obtain rfl : fn = Tryd.f6 := (Option.some.inj (Tryd.func6.symm.trans hfn)).symm
      exact ⟨by kernel_rfl, fun j t ht => by
        rw [Tryd.params6] at ht
        have hm : t ∈ [3, 3] := by simpa using Array.mem_of_getElem? ht
        have hall : ([3, 3].all fun u => !Tryd.prog.wantsStandIn u) = true := by kernel_rfl
        exact (show Tryd.prog.wantsStandIn t = false by simpa using List.all_eq_true.1 hall t hm)⟩)
    (by kernel_rfl)
end Go.Proofs.YtkdikllfbklhcaaDoor
#print axioms Go.Proofs.YtkdikllfbklhcaaDoor.natPascal_card
