/- Proved: IndexBack returns true for every slice of whole numbers, and the slice reads as it did. Conditions: none. -/
import Derived.Test.YtpcmofalfjgmmaaRows
import Derived.Test.YtpcmofalfjgmmaaB
import Derived.WalkKit
import Derived.ProofKit
import Derived.ShutString
namespace Go.Proofs.Ytpcmofalfjgmmaa.indexBack
open Go Vm
theorem own : ownKnob Try.prog.godebug = none := by kernel_rfl
theorem laidOut : laidOutB Try.prog = true := by kernel_rfl
theorem lifted (os : Os) (started : os.Started) (H : Type) (enc : TypeId × Value → H) :
    ReturnsInHanded {} Try.checked os 3 .any (Rows.indexBackSpec.pre6 enc Try.prog Try.f3 Rows.indexBackRow.domain false) (Rows.indexBackSpec.post enc Try.prog Try.f3 false true false false) :=
  law_lifted (C := Try.checked) (E := ⟨te, [], []⟩) (s := Rows.indexBackSpec) own started (by kernel_rfl) Try.func3
    (ChangeSpec.witness6 (enc := enc) (C := Try.checked) false ⟨#[], #[.slice none 0 0], []⟩ 8 (by kernel_rfl) (by kernel_rfl) (by kernel_rfl) (by kernel_rfl))
    ok laidOut (by kernel_rfl) (by kernel_rfl) (by kernel_rfl) Try.underlying4 rfl
    (fun ds h => by
      have h : ds.length = 1 := h
      match ds, h with
      | [d0], _ => exact ⟨rfl, rfl, rfl⟩)
    f3_holds indexBack_plain
theorem over : Rows.indexBackRow.holds Try.pinned (OpenSpec.ofChange Rows.indexBackSpec) :=
  OpenClaim.holds_of_wide 3 Try.f3 rfl rfl rfl rfl rfl rfl rfl ⟨rfl, rfl, rfl, rfl, rfl⟩ rfl rfl rfl rfl rfl (by kernel_rfl) Try.func3 (by kernel_rfl)
    (of_decide_eq_true (by kernel_rfl)) (by unfold Func.isWrapper; first | (rw [if_pos (by decide +kernel)]; kernel_rfl) | (rw [if_neg (by decide +kernel)]; exact ⟨rfl, rfl⟩))
    (fun os started H enc _ => lifted os started H enc)
end Go.Proofs.Ytpcmofalfjgmmaa.indexBack
namespace Go.Proofs.Ytpcmofalfjgmmaa
theorem indexBack_holds : Rows.IndexBackSaid := indexBack.over
end Go.Proofs.Ytpcmofalfjgmmaa
#print axioms Go.Proofs.Ytpcmofalfjgmmaa.indexBack_holds

