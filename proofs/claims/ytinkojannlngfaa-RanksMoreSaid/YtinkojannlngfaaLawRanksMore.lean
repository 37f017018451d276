/- Proved: what RanksMore says of every input. Conditions: none. -/
import Derived.Test.YtinkojannlngfaaRows
import Derived.Test.YtinkojannlngfaaC
import Derived.WalkKit
import Derived.ProofKit
import Derived.ShutString
namespace Go.Proofs.Ytinkojannlngfaa.ranksMore
open Go Vm
theorem own : ownKnob Try.prog.godebug = none := by kernel_rfl
theorem laidOut : laidOutB Try.prog = true := by kernel_rfl
theorem lifted (os : Os) (started : os.Started) (H : Type) (enc : TypeId × Value → H) :
    ReturnsInHanded {} Try.checked os 4 .any (Rows.ranksMoreSpec.pre6 enc Try.prog Try.f4 Rows.ranksMoreRow.domain false) (Rows.ranksMoreSpec.post enc Try.prog Try.f4 false true false false) :=
  law_lifted (C := Try.checked) (E := ⟨te, [], []⟩) (s := Rows.ranksMoreSpec) own started (by kernel_rfl) Try.func4
    (ChangeSpec.witness6 (enc := enc) (C := Try.checked) false ⟨#[], #[.slice none 0 0], []⟩ 8 (by kernel_rfl) (by kernel_rfl) (by kernel_rfl) (by kernel_rfl))
    ok laidOut (by kernel_rfl) (by kernel_rfl) (by kernel_rfl) Try.underlying4 rfl
    (fun ds h => by
      have h : ds.length = 1 := h
      match ds, h with
      | [d0], _ => exact ⟨rfl, rfl, rfl⟩)
    f4_holds ranksMore_plain
theorem over : Rows.ranksMoreRow.holds Try.pinned (OpenSpec.ofChange Rows.ranksMoreSpec) :=
  OpenClaim.holds_of_wide 4 Try.f4 rfl rfl rfl rfl rfl rfl rfl ⟨rfl, rfl, rfl, rfl, rfl⟩ rfl rfl rfl rfl rfl (by kernel_rfl) Try.func4 (by kernel_rfl)
    (of_decide_eq_true (by kernel_rfl)) (by unfold Func.isWrapper; first | (rw [if_pos (by decide +kernel)]; kernel_rfl) | (rw [if_neg (by decide +kernel)]; exact ⟨rfl, rfl⟩))
    (fun os started H enc _ => lifted os started H enc)
end Go.Proofs.Ytinkojannlngfaa.ranksMore
namespace Go.Proofs.Ytinkojannlngfaa
theorem ranksMore_holds : Rows.RanksMoreSaid := ranksMore.over
end Go.Proofs.Ytinkojannlngfaa
#print axioms Go.Proofs.Ytinkojannlngfaa.ranksMore_holds

