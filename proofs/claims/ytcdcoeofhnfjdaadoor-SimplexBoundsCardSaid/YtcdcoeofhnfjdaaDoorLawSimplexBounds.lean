/- Proved: what SimplexBounds says of every input; the listed variables are tied to the program (the card). Conditions: none besides. -/
import Derived.Test.YtcdcoeofhnfjdaaDoorCards
import Derived.Test.YtcdcoeofhnfjdaaDoorTie
import Derived.Test.YtcdcoeofhnfjdaaDoorSm
import Derived.Lay
import Derived.WalkKit
import Derived.ProofKit
import Derived.ShutString
import Derived.SevenTiedAt
namespace Go.Proofs.YtcdcoeofhnfjdaaDoor.simplexBounds
open Go Vm
theorem own : ownKnob Tryd.prog.godebug = none := by kernel_rfl
theorem laidOut : laidOutB Tryd.prog = true := by kernel_rfl
theorem lifted (os : Os) (started : os.Started) (H : Type) (enc : TypeId × Value → H) :
    ReturnsInHanded {} Tryd.checked os 6 .any (fun w args => (Rows.simplexBoundsSpec.pre enc Tryd.prog Tryd.f6 Rows.simplexBoundsRow.domain false w args ∧ laidMetH Tryd.prog Rows.simplexBoundsRow.laid w) ∧ sizedMet enc Tryd.prog Tryd.f6 (OpenSpec.ofChange Rows.simplexBoundsSpec) false w args) (Rows.simplexBoundsSpec.post enc Tryd.prog Tryd.f6 false true false false) :=
  w7n (C := Tryd.checked) (E := { te := te, spec := [], body := [] }) (s := Rows.simplexBoundsSpec) own started (by kernel_rfl) Tryd.func6
    (ChangeSpec.witness_shaped (enc := enc) (C := Tryd.checked) (os := os) (X := fun w _ => laidMetH Tryd.prog Rows.simplexBoundsRow.laid w) false (World.laidAll Tryd.prog os Rows.simplexBoundsRow.laid) #[.agg #[.slice none 0 0, .slice none 0 0, .slice none 0 0], .slice none 0 0] 8 (World.laidAll_os _ _ _)
      (World.shaped_of_ZipB (by kernel_rfl) (by kernel_rfl)) (by kernel_rfl) (by kernel_rfl) (by kernel_rfl)
      (by rw [MakeChecks.laidMetH_plain _ _ _ (by kernel_rfl)]; exact laidMet_laidAll _ (by kernel_rfl) (by kernel_rfl)))
    ok laidOut (by kernel_rfl) (by kernel_rfl) (by kernel_rfl) Tryd.underlying4 rfl
    (fun ds h => by
      have h : ds.length = 2 := h
      match ds, h with
      | [d0, d1], _ => exact ⟨rfl, rfl, rfl⟩)
    z8o simplexBounds_plain
theorem over : Rows.simplexBoundsRow.holds Tryd.pinned (OpenSpec.ofChange Rows.simplexBoundsSpec) :=
  OpenClaim.holds_of_wide 6 Tryd.f6 rfl rfl rfl rfl rfl rfl rfl ⟨rfl, rfl, rfl, rfl, rfl⟩ rfl rfl rfl rfl rfl (by kernel_rfl) Tryd.func6 (by kernel_rfl)
    (of_decide_eq_true (by kernel_rfl)) (by unfold Func.isWrapper; first | (rw [if_pos (by decide +kernel)]; kernel_rfl) | (rw [if_neg (by decide +kernel)]; exact ⟨rfl, rfl⟩))
    (fun os started H enc _ => lifted os started H enc)
end Go.Proofs.YtcdcoeofhnfjdaaDoor.simplexBounds
namespace Go.Proofs.YtcdcoeofhnfjdaaDoor
open Go
theorem simplexBounds_holds : Rows.SimplexBoundsSaid := simplexBounds.over
theorem simplexBounds_card : Rows.SimplexBoundsCardSaid :=
  Claim7.holds_tied_plain_at .later [] [.data, .pinned] true (true, "c076dfa99244b522e28c42f3264f8f1e9aa7c01e21b9cf6206fd1089396856b2") false
    simplexBounds_holds (fun _ h => by cases h) (by kernel_rfl) (fun _ h => by cases h) simplexBounds_row_tie rfl ⟨rfl, rfl⟩ (by kernel_rfl) rfl
    (fun f fn hf hfn => by
      obtain rfl : f = 6 := Option.some.inj ((show Tryd.prog.funcNamed "gamehall/gamehallkeep2.SimplexBounds" = some 6 by kernel_rfl).symm.trans hf) |>.symm
      obtain rfl : fn = Tryd.f6 := (Option.some.inj (Tryd.func6.symm.trans hfn)).symm
      exact ⟨by kernel_rfl, fun j t ht => by
        rw [Tryd.params6] at ht
        have hm : t ∈ [27, 25] := by simpa using Array.mem_of_getElem? ht
        have hall : ([27, 25].all fun u => !Tryd.prog.wantsStandIn u) = true := by kernel_rfl
        exact (show Tryd.prog.wantsStandIn t = false by simpa using List.all_eq_true.1 hall t hm)⟩)
    (by kernel_rfl)
end Go.Proofs.YtcdcoeofhnfjdaaDoor
#print axioms Go.Proofs.YtcdcoeofhnfjdaaDoor.simplexBounds_card
