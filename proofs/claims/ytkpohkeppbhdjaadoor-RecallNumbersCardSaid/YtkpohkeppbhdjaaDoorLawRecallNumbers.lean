/- Proved: what RecallNumbers says of every input; the listed variables are tied to the program (the card). Conditions: none besides. -/
import Derived.Test.YtkpohkeppbhdjaaDoorCards
import Derived.Test.YtkpohkeppbhdjaaDoorTie
import Derived.Test.YtkpohkeppbhdjaaDoorTh
import Derived.Lay
import Derived.WalkKit
import Derived.ProofKit
import Derived.ShutString
import Derived.SevenTiedAt
namespace Go.Proofs.YtkpohkeppbhdjaaDoor.recallNumbers
open Go Vm
theorem own : ownKnob Tryd.prog.godebug = none := by kernel_rfl
theorem laidOut : laidOutB Tryd.prog = true := by kernel_rfl
theorem lifted (os : Os) (started : os.Started) (H : Type) (enc : TypeId × Value → H) :
    ReturnsInHanded {} Tryd.checked os 4 .any (fun w args => (Rows.recallNumbersSpec.pre enc Tryd.prog Tryd.f4 Rows.recallNumbersRow.domain false w args ∧ laidMetH Tryd.prog Rows.recallNumbersRow.laid w) ∧ sizedMet enc Tryd.prog Tryd.f4 (OpenSpec.ofChange Rows.recallNumbersSpec) false w args) (Rows.recallNumbersSpec.post enc Tryd.prog Tryd.f4 false true false false) :=
  law_laid (C := Tryd.checked) (E := { te := te, spec := [], body := [] }) (s := Rows.recallNumbersSpec) own started (by kernel_rfl) Tryd.func4
    (ChangeSpec.witness_shaped (enc := enc) (C := Tryd.checked) (os := os) (X := fun w _ => laidMetH Tryd.prog Rows.recallNumbersRow.laid w) false (World.laidAll Tryd.prog os Rows.recallNumbersRow.laid) #[.slice none 0 0, .int .i64 0] 8 (World.laidAll_os _ _ _)
      (World.shaped_of_ZipB (by kernel_rfl) (by kernel_rfl)) (by kernel_rfl) (by kernel_rfl) (by kernel_rfl)
      (by rw [MakeChecks.laidMetH_plain _ _ _ (by kernel_rfl)]; exact laidMet_laidAll _ (by kernel_rfl) (by kernel_rfl)))
    ok laidOut (by kernel_rfl) (by kernel_rfl) (by kernel_rfl) Tryd.underlying4 rfl
    (fun ds h => by
      have h : ds.length = 2 := h
      match ds, h with
      | [d0, d1], _ => exact ⟨rfl, rfl, rfl⟩)
    f_gamehallkeep2_RecallNumbers_holds recallNumbers_plain
theorem over : Rows.recallNumbersRow.holds Tryd.pinned (OpenSpec.ofChange Rows.recallNumbersSpec) :=
  OpenClaim.holds_of_wide 4 Tryd.f4 rfl rfl rfl rfl rfl rfl rfl ⟨rfl, rfl, rfl, rfl, rfl⟩ rfl rfl rfl rfl rfl (by kernel_rfl) Tryd.func4 (by kernel_rfl)
    (of_decide_eq_true (by kernel_rfl)) (by unfold Func.isWrapper; first | (rw [if_pos (by decide +kernel)]; kernel_rfl) | (rw [if_neg (by decide +kernel)]; exact ⟨rfl, rfl⟩))
    (fun os started H enc _ => lifted os started H enc)
end Go.Proofs.YtkpohkeppbhdjaaDoor.recallNumbers
namespace Go.Proofs.YtkpohkeppbhdjaaDoor
open Go
theorem recallNumbers_holds : Rows.RecallNumbersSaid := recallNumbers.over
theorem recallNumbers_card : Rows.RecallNumbersCardSaid :=
  Claim7.holds_tied_plain_at .later [] [.data, .pinned] true (true, "8d650560c37502e7c2a89347bd82acff608553810f6cce266ad8a4e968010e03") false
    recallNumbers_holds (fun _ h => by cases h) (by kernel_rfl) (fun _ h => by cases h) recallNumbers_row_tie rfl ⟨rfl, rfl⟩ (by kernel_rfl) rfl
    (fun f fn hf hfn => by
      obtain rfl : f = 4 := Option.some.inj ((show Tryd.prog.funcNamed "gamehall/gamehallkeep2.RecallNumbers" = some 4 by kernel_rfl).symm.trans hf) |>.symm
      obtain rfl : fn = Tryd.f4 := (Option.some.inj (Tryd.func4.symm.trans hfn)).symm
      exact ⟨by kernel_rfl, fun j t ht => by
        rw [Tryd.params4] at ht
        have hm : t ∈ [22, 3] := by simpa using Array.mem_of_getElem? ht
        have hall : ([22, 3].all fun u => !Tryd.prog.wantsStandIn u) = true := by kernel_rfl
        exact (show Tryd.prog.wantsStandIn t = false by simpa using List.all_eq_true.1 hall t hm)⟩)
    (by kernel_rfl)
end Go.Proofs.YtkpohkeppbhdjaaDoor
#print axioms Go.Proofs.YtkpohkeppbhdjaaDoor.recallNumbers_card
