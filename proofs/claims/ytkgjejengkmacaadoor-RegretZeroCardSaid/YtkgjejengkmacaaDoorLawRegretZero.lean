/- Proved: what RegretZero says of every input; the listed variables are tied to the program (the card). Conditions: none besides. -/
import Derived.Test.YtkgjejengkmacaaDoorCards
import Derived.Test.YtkgjejengkmacaaDoorTie
import Derived.Test.YtkgjejengkmacaaDoorMe
import Derived.Lay
import Derived.WalkKit
import Derived.ProofKit
import Derived.ShutString
import Derived.SevenTiedAt
namespace Go.Proofs.YtkgjejengkmacaaDoor.regretZero
open Go Vm
theorem own : ownKnob Tryd.prog.godebug = none := by kernel_rfl
theorem laidOut : laidOutB Tryd.prog = true := by kernel_rfl
theorem lifted (os : Os) (started : os.Started) (H : Type) (enc : TypeId × Value → H) :
    ReturnsInHanded {} Tryd.checked os 5 .any (fun w args => (Rows.regretZeroSpec.pre enc Tryd.prog Tryd.f5 Rows.regretZeroRow.domain false w args ∧ laidMetH Tryd.prog Rows.regretZeroRow.laid w) ∧ sizedMet enc Tryd.prog Tryd.f5 (OpenSpec.ofChange Rows.regretZeroSpec) false w args) (Rows.regretZeroSpec.post enc Tryd.prog Tryd.f5 false true false false) :=
  law_laid (C := Tryd.checked) (E := { te := te, spec := [], body := [] }) (s := Rows.regretZeroSpec) own started (by kernel_rfl) Tryd.func5
    (ChangeSpec.witness_shaped (enc := enc) (C := Tryd.checked) (os := os) (X := fun w _ => laidMetH Tryd.prog Rows.regretZeroRow.laid w) false (World.laidAll Tryd.prog os Rows.regretZeroRow.laid) #[.slice none 0 0, .slice none 0 0] 8 (World.laidAll_os _ _ _)
      (World.shaped_of_ZipB (by kernel_rfl) (by kernel_rfl)) (by kernel_rfl) (by kernel_rfl) (by kernel_rfl)
      (by rw [MakeChecks.laidMetH_plain _ _ _ (by kernel_rfl)]; exact laidMet_laidAll _ (by kernel_rfl) (by kernel_rfl)))
    ok laidOut (by kernel_rfl) (by kernel_rfl) (by kernel_rfl) Tryd.underlying4 rfl
    (fun ds h => by
      have h : ds.length = 2 := h
      match ds, h with
      | [d0, d1], _ => exact ⟨rfl, rfl, rfl⟩)
    f_gamehallkeep2_RegretZero_holds regretZero_plain
theorem over : Rows.regretZeroRow.holds Tryd.pinned (OpenSpec.ofChange Rows.regretZeroSpec) :=
  OpenClaim.holds_of_wide 5 Tryd.f5 rfl rfl rfl rfl rfl rfl rfl ⟨rfl, rfl, rfl, rfl, rfl⟩ rfl rfl rfl rfl rfl (by kernel_rfl) Tryd.func5 (by kernel_rfl)
    (of_decide_eq_true (by kernel_rfl)) (by unfold Func.isWrapper; first | (rw [if_pos (by decide +kernel)]; kernel_rfl) | (rw [if_neg (by decide +kernel)]; exact ⟨rfl, rfl⟩))
    (fun os started H enc _ => lifted os started H enc)
end Go.Proofs.YtkgjejengkmacaaDoor.regretZero
namespace Go.Proofs.YtkgjejengkmacaaDoor
open Go
theorem regretZero_holds : Rows.RegretZeroSaid := regretZero.over
theorem regretZero_card : Rows.RegretZeroCardSaid :=
  Claim7.holds_tied_plain_at .later [] [.data, .pinned] true (true, "2e10c5320f8bd745767d214be0298859ea3c3f073d601ee0b71d5751ffcba404") false
    regretZero_holds (fun _ h => by cases h) (by kernel_rfl) (fun _ h => by cases h) regretZero_row_tie rfl ⟨rfl, rfl⟩ (by kernel_rfl) rfl
    (fun f fn hf hfn => by
      obtain rfl : f = 5 := Option.some.inj ((show Tryd.prog.funcNamed "gamehall/gamehallkeep2.RegretZero" = some 5 by kernel_rfl).symm.trans hf) |>.symm
      obtain rfl : fn = Tryd.f5 := (Option.some.inj (Tryd.func5.symm.trans hfn)).symm
      exact ⟨by kernel_rfl, fun j t ht => by
        rw [Tryd.params5] at ht
        have hm : t ∈ [23, 27] := by simpa using Array.mem_of_getElem? ht
        have hall : ([23, 27].all fun u => !Tryd.prog.wantsStandIn u) = true := by kernel_rfl
        exact (show Tryd.prog.wantsStandIn t = false by simpa using List.all_eq_true.1 hall t hm)⟩)
    (by kernel_rfl)
end Go.Proofs.YtkgjejengkmacaaDoor
#print axioms Go.Proofs.YtkgjejengkmacaaDoor.regretZero_card
