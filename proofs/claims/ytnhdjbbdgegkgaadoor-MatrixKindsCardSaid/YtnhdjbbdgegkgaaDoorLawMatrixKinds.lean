/- Proved: what MatrixKinds says of every input; the listed variables are tied to the program (the card). Conditions: none besides. -/
import Derived.Test.YtnhdjbbdgegkgaaDoorCards
import Derived.Test.YtnhdjbbdgegkgaaDoorTie
import Derived.Test.YtnhdjbbdgegkgaaDoorVk
import Derived.Lay
import Derived.WalkKit
import Derived.ProofKit
import Derived.ShutString
import Derived.SevenTiedAt
namespace Go.Proofs.YtnhdjbbdgegkgaaDoor.matrixKinds
open Go Vm
theorem own : ownKnob Tryd.prog.godebug = none := by kernel_rfl
theorem laidOut : laidOutB Tryd.prog = true := by kernel_rfl
theorem lifted (os : Os) (started : os.Started) (H : Type) (enc : TypeId × Value → H) :
    ReturnsInHanded {} Tryd.checked os 5 .any (fun w args => (Rows.matrixKindsSpec.pre enc Tryd.prog Tryd.f5 Rows.matrixKindsRow.domain false w args ∧ laidMetH Tryd.prog Rows.matrixKindsRow.laid w) ∧ sizedMet enc Tryd.prog Tryd.f5 (OpenSpec.ofChange Rows.matrixKindsSpec) false w args) (Rows.matrixKindsSpec.post enc Tryd.prog Tryd.f5 false true false false) :=
  law_laid (C := Tryd.checked) (E := { te := te, spec := [], body := [] }) (s := Rows.matrixKindsSpec) own started (by kernel_rfl) Tryd.func5
    (ChangeSpec.witness_shaped (enc := enc) (C := Tryd.checked) (os := os) (X := fun w _ => laidMetH Tryd.prog Rows.matrixKindsRow.laid w) false (World.laidAll Tryd.prog os Rows.matrixKindsRow.laid) #[.slice none 0 0, .slice none 0 0] 8 (World.laidAll_os _ _ _)
      (World.shaped_of_ZipB (by kernel_rfl) (by kernel_rfl)) (by kernel_rfl) (by kernel_rfl) (by kernel_rfl)
      (by rw [MakeChecks.laidMetH_plain _ _ _ (by kernel_rfl)]; exact laidMet_laidAll _ (by kernel_rfl) (by kernel_rfl)))
    ok laidOut (by kernel_rfl) (by kernel_rfl) (by kernel_rfl) Tryd.underlying4 rfl
    (fun ds h => by
      have h : ds.length = 2 := h
      match ds, h with
      | [d0, d1], _ => exact ⟨rfl, rfl, rfl⟩)
    f_gamehallkeep2_MatrixKinds_holds matrixKinds_plain
theorem over : Rows.matrixKindsRow.holds Tryd.pinned (OpenSpec.ofChange Rows.matrixKindsSpec) :=
  OpenClaim.holds_of_wide 5 Tryd.f5 rfl rfl rfl rfl rfl rfl rfl ⟨rfl, rfl, rfl, rfl, rfl⟩ rfl rfl rfl rfl rfl (by kernel_rfl) Tryd.func5 (by kernel_rfl)
    (of_decide_eq_true (by kernel_rfl)) (by unfold Func.isWrapper; first | (rw [if_pos (by decide +kernel)]; kernel_rfl) | (rw [if_neg (by decide +kernel)]; exact ⟨rfl, rfl⟩))
    (fun os started H enc _ => lifted os started H enc)
end Go.Proofs.YtnhdjbbdgegkgaaDoor.matrixKinds
namespace Go.Proofs.YtnhdjbbdgegkgaaDoor
open Go
theorem matrixKinds_holds : Rows.MatrixKindsSaid := matrixKinds.over
theorem matrixKinds_card : Rows.MatrixKindsCardSaid :=
  Claim7.holds_tied_plain_at .later [] [.data, .pinned] true (true, "78fa52c492d1dc97bdfeb88ab403e1e05552f2bac5d3419c8aa45d1ce4869bfe") false
    matrixKinds_holds (fun _ h => by cases h) (by kernel_rfl) (fun _ h => by cases h) matrixKinds_row_tie rfl ⟨rfl, rfl⟩ (by kernel_rfl) rfl
    (fun f fn hf hfn => by
      obtain rfl : f = 5 := Option.some.inj ((show Tryd.prog.funcNamed "gamehall/gamehallkeep2.MatrixKinds" = some 5 by kernel_rfl).symm.trans hf) |>.symm
      obtain rfl : fn = Tryd.f5 := (Option.some.inj (Tryd.func5.symm.trans hfn)).symm
      exact ⟨by kernel_rfl, fun j t ht => by
        rw [Tryd.params5] at ht
        have hm : t ∈ [23, 25] := by simpa using Array.mem_of_getElem? ht
        have hall : ([23, 25].all fun u => !Tryd.prog.wantsStandIn u) = true := by kernel_rfl
        exact (show Tryd.prog.wantsStandIn t = false by simpa using List.all_eq_true.1 hall t hm)⟩)
    (by kernel_rfl)
end Go.Proofs.YtnhdjbbdgegkgaaDoor
#print axioms Go.Proofs.YtnhdjbbdgegkgaaDoor.matrixKinds_card
