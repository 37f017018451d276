/- Proved: what RecallSums says of every input; the listed variables are tied to the program (the card). Conditions: none besides. -/
import Derived.Test.YtkpohkeppbhdjaaDoorCards
import Derived.Test.YtkpohkeppbhdjaaDoorTie
import Derived.Test.YtkpohkeppbhdjaaDoorTj
import Derived.Lay
import Derived.WalkKit
import Derived.ProofKit
import Derived.ShutString
import Derived.SevenTiedAt
namespace Go.Proofs.YtkpohkeppbhdjaaDoor.recallSums
open Go Vm
theorem own : ownKnob Tryd.prog.godebug = none := by kernel_rfl
theorem laidOut : laidOutB Tryd.prog = true := by kernel_rfl
theorem lifted (os : Os) (started : os.Started) (H : Type) (enc : TypeId × Value → H) :
    ReturnsInHanded {} Tryd.checked os 5 .any (fun w args => (Rows.recallSumsSpec.pre enc Tryd.prog Tryd.f5 Rows.recallSumsRow.domain false w args ∧ laidMetH Tryd.prog Rows.recallSumsRow.laid w) ∧ sizedMet enc Tryd.prog Tryd.f5 (OpenSpec.ofChange Rows.recallSumsSpec) false w args) (Rows.recallSumsSpec.post enc Tryd.prog Tryd.f5 false true false false) :=
  law_laid (C := Tryd.checked) (E := { te := te, spec := [], body := [] }) (s := Rows.recallSumsSpec) own started (by kernel_rfl) Tryd.func5
    (ChangeSpec.witness_shaped (enc := enc) (C := Tryd.checked) (os := os) (X := fun w _ => laidMetH Tryd.prog Rows.recallSumsRow.laid w) false (World.laidAll Tryd.prog os Rows.recallSumsRow.laid) #[.slice none 0 0, .int .i64 0, .slice none 0 0] 8 (World.laidAll_os _ _ _)
      (World.shaped_of_ZipB (by kernel_rfl) (by kernel_rfl)) (by kernel_rfl) (by kernel_rfl) (by kernel_rfl)
      (by rw [MakeChecks.laidMetH_plain _ _ _ (by kernel_rfl)]; exact laidMet_laidAll _ (by kernel_rfl) (by kernel_rfl)))
    ok laidOut (by kernel_rfl) (by kernel_rfl) (by kernel_rfl) Tryd.underlying4 rfl
    (fun ds h => by
      have h : ds.length = 3 := h
      match ds, h with
      | [d0, d1, d2], _ => exact ⟨rfl, rfl, rfl⟩)
    f_gamehallkeep2_RecallSums_holds recallSums_plain
theorem over : Rows.recallSumsRow.holds Tryd.pinned (OpenSpec.ofChange Rows.recallSumsSpec) :=
  OpenClaim.holds_of_wide 5 Tryd.f5 rfl rfl rfl rfl rfl rfl rfl ⟨rfl, rfl, rfl, rfl, rfl⟩ rfl rfl rfl rfl rfl (by kernel_rfl) Tryd.func5 (by kernel_rfl)
    (of_decide_eq_true (by kernel_rfl)) (by unfold Func.isWrapper; first | (rw [if_pos (by decide +kernel)]; kernel_rfl) | (rw [if_neg (by decide +kernel)]; exact ⟨rfl, rfl⟩))
    (fun os started H enc _ => lifted os started H enc)
end Go.Proofs.YtkpohkeppbhdjaaDoor.recallSums
namespace Go.Proofs.YtkpohkeppbhdjaaDoor
open Go
theorem recallSums_holds : Rows.RecallSumsSaid := recallSums.over
theorem recallSums_card : Rows.RecallSumsCardSaid :=
  Claim7.holds_tied_plain_at .later [] [.data, .pinned] true (true, "8d650560c37502e7c2a89347bd82acff608553810f6cce266ad8a4e968010e03") false
    recallSums_holds (fun _ h => by cases h) (by kernel_rfl) (fun _ h => by cases h) recallSums_row_tie rfl ⟨rfl, rfl⟩ (by kernel_rfl) rfl
    (fun f fn hf hfn => by
      obtain rfl : f = 5 := Option.some.inj ((show Tryd.prog.funcNamed "gamehall/gamehallkeep2.RecallSums" = some 5 by kernel_rfl).symm.trans hf) |>.symm
      obtain rfl : fn = Tryd.f5 := (Option.some.inj (Tryd.func5.symm.trans hfn)).symm
      exact ⟨by kernel_rfl, fun j t ht => by
        rw [Tryd.params5] at ht
        have hm : t ∈ [22, 3, 41] := by simpa using Array.mem_of_getElem? ht
        have hall : ([22, 3, 41].all fun u => !Tryd.prog.wantsStandIn u) = true := by kernel_rfl
        exact (show Tryd.prog.wantsStandIn t = false by simpa using List.all_eq_true.1 hall t hm)⟩)
    (by kernel_rfl)
end Go.Proofs.YtkpohkeppbhdjaaDoor
#print axioms Go.Proofs.YtkpohkeppbhdjaaDoor.recallSums_card
