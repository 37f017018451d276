/- Proved: what IndexOrders says of every input. Conditions: none. -/
import Derived.Test.YtpcmofalfjgmmaaRows
import Derived.Test.YtpcmofalfjgmmaaO
import Derived.WalkKit
import Derived.ProofKit
import Derived.ShutString
namespace Go.Proofs.Ytpcmofalfjgmmaa.indexOrders
open Go Vm
theorem own : ownKnob Try.prog.godebug = none := by kernel_rfl
theorem laidOut : laidOutB Try.prog = true := by kernel_rfl
theorem lifted (os : Os) (started : os.Started) (H : Type) (enc : TypeId × Value → H) :
    ReturnsInHanded {} Try.checked os 5 .any (Rows.indexOrdersSpec.pre6 enc Try.prog Try.f5 Rows.indexOrdersRow.domain false) (Rows.indexOrdersSpec.post enc Try.prog Try.f5 false true false false) :=
  law_lifted (C := Try.checked) (E := ⟨te, [], []⟩) (s := Rows.indexOrdersSpec) own started (by kernel_rfl) Try.func5
    (ChangeSpec.witness6 (enc := enc) (C := Try.checked) false ⟨#[], #[.slice none 0 0, .slice none 0 0], []⟩ 8 (by kernel_rfl) (by kernel_rfl) (by kernel_rfl) (by kernel_rfl))
    ok laidOut (by kernel_rfl) (by kernel_rfl) (by kernel_rfl) Try.underlying4 rfl
    (fun ds h => by
      have h : ds.length = 2 := h
      match ds, h with
      | [d0, d1], _ => exact ⟨rfl, rfl, rfl⟩)
    f5_holds indexOrders_plain
theorem over : Rows.indexOrdersRow.holds Try.pinned (OpenSpec.ofChange Rows.indexOrdersSpec) :=
  OpenClaim.holds_of_wide 5 Try.f5 rfl rfl rfl rfl rfl rfl rfl ⟨rfl, rfl, rfl, rfl, rfl⟩ rfl rfl rfl rfl rfl (by kernel_rfl) Try.func5 (by kernel_rfl)
    (of_decide_eq_true (by kernel_rfl)) (by unfold Func.isWrapper; first | (rw [if_pos (by decide +kernel)]; kernel_rfl) | (rw [if_neg (by decide +kernel)]; exact ⟨rfl, rfl⟩))
    (fun os started H enc _ => lifted os started H enc)
end Go.Proofs.Ytpcmofalfjgmmaa.indexOrders
namespace Go.Proofs.Ytpcmofalfjgmmaa
theorem indexOrders_holds : Rows.IndexOrdersSaid := indexOrders.over
end Go.Proofs.Ytpcmofalfjgmmaa
#print axioms Go.Proofs.Ytpcmofalfjgmmaa.indexOrders_holds

