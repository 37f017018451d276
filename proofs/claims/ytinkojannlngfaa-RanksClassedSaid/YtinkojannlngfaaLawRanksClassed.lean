/- Proved: what RanksClassed says of every input. Conditions: none. -/
import Derived.Test.YtinkojannlngfaaRows
import Derived.Test.YtinkojannlngfaaV
import Derived.WalkKit
import Derived.ProofKit
import Derived.ShutString
namespace Go.Proofs.Ytinkojannlngfaa.ranksClassed
open Go Vm
theorem own : ownKnob Try.prog.godebug = none := by kernel_rfl
theorem laidOut : laidOutB Try.prog = true := by kernel_rfl
theorem lifted (os : Os) (started : os.Started) (H : Type) (enc : TypeId × Value → H) :
    ReturnsInHanded {} Try.checked os 3 .any (Rows.ranksClassedSpec.pre6 enc Try.prog Try.f3 Rows.ranksClassedRow.domain false) (Rows.ranksClassedSpec.post enc Try.prog Try.f3 false true false false) :=
  law_lifted (C := Try.checked) (E := ⟨te, [], []⟩) (s := Rows.ranksClassedSpec) own started (by kernel_rfl) Try.func3
    (ChangeSpec.witness6 (enc := enc) (C := Try.checked) false ⟨#[], #[.slice none 0 0, .slice none 0 0], []⟩ 8 (by kernel_rfl) (by kernel_rfl) (by kernel_rfl) (by kernel_rfl))
    ok laidOut (by kernel_rfl) (by kernel_rfl) (by kernel_rfl) Try.underlying4 rfl
    (fun ds h => by
      have h : ds.length = 2 := h
      match ds, h with
      | [d0, d1], _ => exact ⟨rfl, rfl, rfl⟩)
    f3_holds ranksClassed_plain
theorem over : Rows.ranksClassedRow.holds Try.pinned (OpenSpec.ofChange Rows.ranksClassedSpec) :=
  OpenClaim.holds_of_wide 3 Try.f3 rfl rfl rfl rfl rfl rfl rfl ⟨rfl, rfl, rfl, rfl, rfl⟩ rfl rfl rfl rfl rfl (by kernel_rfl) Try.func3 (by kernel_rfl)
    (of_decide_eq_true (by kernel_rfl)) (by unfold Func.isWrapper; first | (rw [if_pos (by decide +kernel)]; kernel_rfl) | (rw [if_neg (by decide +kernel)]; exact ⟨rfl, rfl⟩))
    (fun os started H enc _ => lifted os started H enc)
end Go.Proofs.Ytinkojannlngfaa.ranksClassed
namespace Go.Proofs.Ytinkojannlngfaa
theorem ranksClassed_holds : Rows.RanksClassedSaid := ranksClassed.over
end Go.Proofs.Ytinkojannlngfaa
#print axioms Go.Proofs.Ytinkojannlngfaa.ranksClassed_holds

