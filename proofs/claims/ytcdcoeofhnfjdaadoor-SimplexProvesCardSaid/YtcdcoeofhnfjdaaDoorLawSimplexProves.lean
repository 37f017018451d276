/- Proved: what SimplexProves says of every input; the listed variables are tied to the program (the card). Conditions: none besides. -/
import Derived.Test.YtcdcoeofhnfjdaaDoorCards
import Derived.Test.YtcdcoeofhnfjdaaDoorTie
import Derived.Test.YtcdcoeofhnfjdaaDoorSl
import Derived.Lay
import Derived.WalkKit
import Derived.ProofKit
import Derived.ShutString
import Derived.SevenTiedAt
namespace Go.Proofs.YtcdcoeofhnfjdaaDoor.simplexProves
open Go Vm
theorem own : ownKnob Tryd.prog.godebug = none := by kernel_rfl
theorem laidOut : laidOutB Tryd.prog = true := by kernel_rfl
theorem lifted (os : Os) (started : os.Started) (H : Type) (enc : TypeId × Value → H) :
    ReturnsInHanded {} Tryd.checked os 3 .any (fun w args => (Rows.simplexProvesSpec.pre enc Tryd.prog Tryd.f3 Rows.simplexProvesRow.domain false w args ∧ laidMetH Tryd.prog Rows.simplexProvesRow.laid w) ∧ sizedMet enc Tryd.prog Tryd.f3 (OpenSpec.ofChange Rows.simplexProvesSpec) false w args) (Rows.simplexProvesSpec.post enc Tryd.prog Tryd.f3 false true false false) :=
  w6c (C := Tryd.checked) (E := { te := te, spec := [], body := [] }) (s := Rows.simplexProvesSpec) own started (by kernel_rfl) Tryd.func3
    (ChangeSpec.witness_shaped (enc := enc) (C := Tryd.checked) (os := os) (X := fun w _ => laidMetH Tryd.prog Rows.simplexProvesRow.laid w) false (World.laidAll Tryd.prog os Rows.simplexProvesRow.laid) #[.agg #[.slice none 0 0, .slice none 0 0, .slice none 0 0]] 8 (World.laidAll_os _ _ _)
      (World.shaped_of_ZipB (by kernel_rfl) (by kernel_rfl)) (by kernel_rfl) (by kernel_rfl) (by kernel_rfl)
      (by rw [MakeChecks.laidMetH_plain _ _ _ (by kernel_rfl)]; exact laidMet_laidAll _ (by kernel_rfl) (by kernel_rfl)))
    ok laidOut (by kernel_rfl) (by kernel_rfl) (by kernel_rfl) Tryd.underlying4 rfl
    (fun ds h => by
      have h : ds.length = 1 := h
      match ds, h with
      | [d0], _ => exact ⟨rfl, rfl, rfl⟩)
    z89 simplexProves_plain
theorem over : Rows.simplexProvesRow.holds Tryd.pinned (OpenSpec.ofChange Rows.simplexProvesSpec) :=
  OpenClaim.holds_of_wide 3 Tryd.f3 rfl rfl rfl rfl rfl rfl rfl ⟨rfl, rfl, rfl, rfl, rfl⟩ rfl rfl rfl rfl rfl (by kernel_rfl) Tryd.func3 (by kernel_rfl)
    (of_decide_eq_true (by kernel_rfl)) (by unfold Func.isWrapper; first | (rw [if_pos (by decide +kernel)]; kernel_rfl) | (rw [if_neg (by decide +kernel)]; exact ⟨rfl, rfl⟩))
    (fun os started H enc _ => lifted os started H enc)
end Go.Proofs.YtcdcoeofhnfjdaaDoor.simplexProves
namespace Go.Proofs.YtcdcoeofhnfjdaaDoor
open Go
theorem simplexProves_holds : Rows.SimplexProvesSaid := simplexProves.over
theorem simplexProves_card : Rows.SimplexProvesCardSaid :=
  Claim7.holds_tied_plain_at .later [] [.data, .pinned] true (true, "c076dfa99244b522e28c42f3264f8f1e9aa7c01e21b9cf6206fd1089396856b2") false
    simplexProves_holds (fun _ h => by cases h) (by kernel_rfl) (fun _ h => by cases h) simplexProves_row_tie rfl ⟨rfl, rfl⟩ (by kernel_rfl) rfl
    (fun f fn hf hfn => by
      obtain rfl : f = 3 := Option.some.inj ((show Tryd.prog.funcNamed "gamehall/gamehallkeep2.SimplexProves" = some 3 by kernel_rfl).symm.trans hf) |>.symm
      obtain rfl : fn = Tryd.f3 := (Option.some.inj (Tryd.func3.symm.trans hfn)).symm
      exact ⟨by kernel_rfl, fun j t ht => by
        rw [Tryd.params3] at ht
        have hm : t ∈ [27] := by simpa using Array.mem_of_getElem? ht
        have hall : ([27].all fun u => !Tryd.prog.wantsStandIn u) = true := by kernel_rfl
        exact (show Tryd.prog.wantsStandIn t = false by simpa using List.all_eq_true.1 hall t hm)⟩)
    (by kernel_rfl)
end Go.Proofs.YtcdcoeofhnfjdaaDoor
#print axioms Go.Proofs.YtcdcoeofhnfjdaaDoor.simplexProves_card
