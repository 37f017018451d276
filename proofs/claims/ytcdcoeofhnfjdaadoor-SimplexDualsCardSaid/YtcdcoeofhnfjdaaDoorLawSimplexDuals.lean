/- Proved: what SimplexDuals says of every input; the listed variables are tied to the program (the card). Conditions: none besides. -/
import Derived.Test.YtcdcoeofhnfjdaaDoorCards
import Derived.Test.YtcdcoeofhnfjdaaDoorTie
import Derived.Test.YtcdcoeofhnfjdaaDoorSn
import Derived.Lay
import Derived.WalkKit
import Derived.ProofKit
import Derived.ShutString
import Derived.SevenTiedAt
namespace Go.Proofs.YtcdcoeofhnfjdaaDoor.simplexDuals
open Go Vm
theorem own : ownKnob Tryd.prog.godebug = none := by kernel_rfl
theorem laidOut : laidOutB Tryd.prog = true := by kernel_rfl
theorem lifted (os : Os) (started : os.Started) (H : Type) (enc : TypeId × Value → H) :
    ReturnsInHanded {} Tryd.checked os 4 .any (fun w args => (Rows.simplexDualsSpec.pre enc Tryd.prog Tryd.f4 Rows.simplexDualsRow.domain false w args ∧ laidMetH Tryd.prog Rows.simplexDualsRow.laid w) ∧ sizedMet enc Tryd.prog Tryd.f4 (OpenSpec.ofChange Rows.simplexDualsSpec) false w args) (Rows.simplexDualsSpec.post enc Tryd.prog Tryd.f4 false true false false) :=
  w77 (C := Tryd.checked) (E := { te := te, spec := [], body := [] }) (s := Rows.simplexDualsSpec) own started (by kernel_rfl) Tryd.func4
    (ChangeSpec.witness_shaped (enc := enc) (C := Tryd.checked) (os := os) (X := fun w _ => laidMetH Tryd.prog Rows.simplexDualsRow.laid w) false (World.laidAll Tryd.prog os Rows.simplexDualsRow.laid) #[.agg #[.slice none 0 0, .slice none 0 0, .slice none 0 0]] 8 (World.laidAll_os _ _ _)
      (World.shaped_of_ZipB (by kernel_rfl) (by kernel_rfl)) (by kernel_rfl) (by kernel_rfl) (by kernel_rfl)
      (by rw [MakeChecks.laidMetH_plain _ _ _ (by kernel_rfl)]; exact laidMet_laidAll _ (by kernel_rfl) (by kernel_rfl)))
    ok laidOut (by kernel_rfl) (by kernel_rfl) (by kernel_rfl) Tryd.underlying4 rfl
    (fun ds h => by
      have h : ds.length = 1 := h
      match ds, h with
      | [d0], _ => exact ⟨rfl, rfl, rfl⟩)
    z93 simplexDuals_plain
theorem over : Rows.simplexDualsRow.holds Tryd.pinned (OpenSpec.ofChange Rows.simplexDualsSpec) :=
  OpenClaim.holds_of_wide 4 Tryd.f4 rfl rfl rfl rfl rfl rfl rfl ⟨rfl, rfl, rfl, rfl, rfl⟩ rfl rfl rfl rfl rfl (by kernel_rfl) Tryd.func4 (by kernel_rfl)
    (of_decide_eq_true (by kernel_rfl)) (by unfold Func.isWrapper; first | (rw [if_pos (by decide +kernel)]; kernel_rfl) | (rw [if_neg (by decide +kernel)]; exact ⟨rfl, rfl⟩))
    (fun os started H enc _ => lifted os started H enc)
end Go.Proofs.YtcdcoeofhnfjdaaDoor.simplexDuals
namespace Go.Proofs.YtcdcoeofhnfjdaaDoor
open Go
theorem simplexDuals_holds : Rows.SimplexDualsSaid := simplexDuals.over
theorem simplexDuals_card : Rows.SimplexDualsCardSaid :=
  Claim7.holds_tied_plain_at .later [] [.data, .pinned] true (true, "c076dfa99244b522e28c42f3264f8f1e9aa7c01e21b9cf6206fd1089396856b2") false
    simplexDuals_holds (fun _ h => by cases h) (by kernel_rfl) (fun _ h => by cases h) simplexDuals_row_tie rfl ⟨rfl, rfl⟩ (by kernel_rfl) rfl
    (fun f fn hf hfn => by
      obtain rfl : f = 4 := Option.some.inj ((show Tryd.prog.funcNamed "gamehall/gamehallkeep2.SimplexDuals" = some 4 by kernel_rfl).symm.trans hf) |>.symm
      obtain rfl : fn = Tryd.f4 := (Option.some.inj (Tryd.func4.symm.trans hfn)).symm
      exact ⟨by kernel_rfl, fun j t ht => by
        rw [Tryd.params4] at ht
        have hm : t ∈ [27] := by simpa using Array.mem_of_getElem? ht
        have hall : ([27].all fun u => !Tryd.prog.wantsStandIn u) = true := by kernel_rfl
        exact (show Tryd.prog.wantsStandIn t = false by simpa using List.all_eq_true.1 hall t hm)⟩)
    (by kernel_rfl)
end Go.Proofs.YtcdcoeofhnfjdaaDoor
#print axioms Go.Proofs.YtcdcoeofhnfjdaaDoor.simplexDuals_card
