/- Proved: what RatField says of every input; the listed variables are tied to the program (the card). Conditions: none besides. -/
import Derived.Test.YtjdilnkihnnfeaaDoorCards
import Derived.Test.YtjdilnkihnnfeaaDoorTie
import Derived.Test.YtjdilnkihnnfeaaDoorRe
import Derived.Lay
import Derived.WalkKit
import Derived.ProofKit
import Derived.ShutString
import Derived.SevenTiedAt
namespace Go.Proofs.YtjdilnkihnnfeaaDoor.ratField
open Go Vm
theorem own : ownKnob Tryd.prog.godebug = none := by kernel_rfl
theorem laidOut : laidOutB Tryd.prog = true := by kernel_rfl
theorem lifted (os : Os) (started : os.Started) (H : Type) (enc : TypeId × Value → H) :
    ReturnsInHanded {} Tryd.checked os 3 .any (fun w args => (Rows.ratFieldSpec.pre enc Tryd.prog Tryd.f3 Rows.ratFieldRow.domain false w args ∧ laidMetH Tryd.prog Rows.ratFieldRow.laid w) ∧ sizedMet enc Tryd.prog Tryd.f3 (OpenSpec.ofChange Rows.ratFieldSpec) false w args) (Rows.ratFieldSpec.post enc Tryd.prog Tryd.f3 false true false false) :=
  law_laid (C := Tryd.checked) (E := ⟨te, [], []⟩) (s := Rows.ratFieldSpec) own started (by kernel_rfl) Tryd.func3
    (ChangeSpec.witness_shaped (enc := enc) (C := Tryd.checked) (os := os) (X := fun w _ => laidMetH Tryd.prog Rows.ratFieldRow.laid w) false (World.laidAll Tryd.prog os Rows.ratFieldRow.laid) #[.string ByteArray.empty, .string ByteArray.empty, .string ByteArray.empty] 8 (World.laidAll_os _ _ _)
      (World.shaped_of_ZipB (by kernel_rfl) (by kernel_rfl)) (by kernel_rfl) (by kernel_rfl) (by kernel_rfl)
      (by rw [MakeChecks.laidMetH_plain _ _ _ (by kernel_rfl)]; exact laidMet_laidAll _ (by kernel_rfl) (by kernel_rfl)))
    ok laidOut (by kernel_rfl) (by kernel_rfl) (by kernel_rfl) Tryd.underlying4 rfl
    (fun ds h => by
      have h : ds.length = 3 := h
      match ds, h with
      | [d0, d1, d2], _ => exact ⟨rfl, rfl, rfl⟩)
    f_gamehallkeep2_RatField_holds ratField_plain
theorem over : Rows.ratFieldRow.holds Tryd.pinned (OpenSpec.ofChange Rows.ratFieldSpec) :=
  OpenClaim.holds_of_wide 3 Tryd.f3 rfl rfl rfl rfl rfl rfl rfl ⟨rfl, rfl, rfl, rfl, rfl⟩ rfl rfl rfl rfl rfl (by kernel_rfl) Tryd.func3 (by kernel_rfl)
    (of_decide_eq_true (by kernel_rfl)) (by unfold Func.isWrapper; first | (rw [if_pos (by decide +kernel)]; kernel_rfl) | (rw [if_neg (by decide +kernel)]; exact ⟨rfl, rfl⟩))
    (fun os started H enc _ => lifted os started H enc)
end Go.Proofs.YtjdilnkihnnfeaaDoor.ratField
namespace Go.Proofs.YtjdilnkihnnfeaaDoor
open Go
theorem ratField_holds : Rows.RatFieldSaid := ratField.over
theorem ratField_card : Rows.RatFieldCardSaid :=
  Claim7.holds_tied_plain_at .later [] [.data, .pinned] true (true, "9af66fbc24f6e9a007403cabd3c63cf45381eefef6f2a8d1c69ab85109b512ad") false
    ratField_holds (fun _ h => by cases h) (by kernel_rfl) (fun _ h => by cases h) ratField_row_tie rfl ⟨rfl, rfl⟩ (by kernel_rfl) rfl
    (fun f fn hf hfn => by
      obtain rfl : f = 3 := Option.some.inj ((show Tryd.prog.funcNamed "gamehall/gamehallkeep2.RatField" = some 3 by kernel_rfl).symm.trans hf) |>.symm
      obtain rfl : fn = Tryd.f3 := (Option.some.inj (Tryd.func3.symm.trans hfn)).symm
      exact ⟨by kernel_rfl, fun j t ht => by
        rw [Tryd.params3] at ht
        have hm : t ∈ [22, 22, 22] := by simpa using Array.mem_of_getElem? ht
        have hall : ([22, 22, 22].all fun u => !Tryd.prog.wantsStandIn u) = true := by kernel_rfl
        exact (show Tryd.prog.wantsStandIn t = false by simpa using List.all_eq_true.1 hall t hm)⟩)
    (by kernel_rfl)
end Go.Proofs.YtjdilnkihnnfeaaDoor
#print axioms Go.Proofs.YtjdilnkihnnfeaaDoor.ratField_card
