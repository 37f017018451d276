/- Proved: what RanksTurns says of every input. Conditions: none. -/
import Derived.Test.YtinkojannlngfaaRows
import Derived.Test.YtinkojannlngfaaT
import Derived.WalkKit
import Derived.ProofKit
import Derived.ShutString
namespace Go.Proofs.Ytinkojannlngfaa.ranksTurns
open Go Vm
theorem own : ownKnob Try.prog.godebug = none := by kernel_rfl
theorem laidOut : laidOutB Try.prog = true := by kernel_rfl
theorem lifted (os : Os) (started : os.Started) (H : Type) (enc : TypeId × Value → H) :
    ReturnsInHanded {} Try.checked os 5 .any (Rows.ranksTurnsSpec.pre6 enc Try.prog Try.f5 Rows.ranksTurnsRow.domain false) (Rows.ranksTurnsSpec.post enc Try.prog Try.f5 false true false false) :=
  law_lifted (C := Try.checked) (E := ⟨te, [], []⟩) (s := Rows.ranksTurnsSpec) own started (by kernel_rfl) Try.func5
    (ChangeSpec.witness6 (enc := enc) (C := Try.checked) false ⟨#[], #[.slice none 0 0, .slice none 0 0, .int .i64 0], []⟩ 8 (by kernel_rfl) (by kernel_rfl) (by kernel_rfl) (by kernel_rfl))
    ok laidOut (by kernel_rfl) (by kernel_rfl) (by kernel_rfl) Try.underlying4 rfl
    (fun ds h => by
      have h : ds.length = 3 := h
      match ds, h with
      | [d0, d1, d2], _ => exact ⟨rfl, rfl, rfl⟩)
    f5_holds ranksTurns_plain
theorem over : Rows.ranksTurnsRow.holds Try.pinned (OpenSpec.ofChange Rows.ranksTurnsSpec) :=
  OpenClaim.holds_of_wide 5 Try.f5 rfl rfl rfl rfl rfl rfl rfl ⟨rfl, rfl, rfl, rfl, rfl⟩ rfl rfl rfl rfl rfl (by kernel_rfl) Try.func5 (by kernel_rfl)
    (of_decide_eq_true (by kernel_rfl)) (by unfold Func.isWrapper; first | (rw [if_pos (by decide +kernel)]; kernel_rfl) | (rw [if_neg (by decide +kernel)]; exact ⟨rfl, rfl⟩))
    (fun os started H enc _ => lifted os started H enc)
end Go.Proofs.Ytinkojannlngfaa.ranksTurns
namespace Go.Proofs.Ytinkojannlngfaa
theorem ranksTurns_holds : Rows.RanksTurnsSaid := ranksTurns.over
end Go.Proofs.Ytinkojannlngfaa
#print axioms Go.Proofs.Ytinkojannlngfaa.ranksTurns_holds

