/- Proved: what RatFloors says of every input; the listed variables are tied to the program (the card). Conditions: none besides. -/
import Derived.Test.YtjdilnkihnnfeaaDoorCards
import Derived.Test.YtjdilnkihnnfeaaDoorTie
import Derived.Test.YtjdilnkihnnfeaaDoorRe
import Derived.Lay
import Derived.WalkKit
import Derived.ProofKit
import Derived.ShutString
import Derived.SevenTiedAt
namespace Go.Proofs.YtjdilnkihnnfeaaDoor.ratFloors
open Go Vm
theorem own : ownKnob Tryd.prog.godebug = none := by kernel_rfl
theorem laidOut : laidOutB Tryd.prog = true := by kernel_rfl
theorem lifted (os : Os) (started : os.Started) (H : Type) (enc : TypeId × Value → H) :
    ReturnsInHanded {} Tryd.checked os 5 .any (fun w args => (Rows.ratFloorsSpec.pre enc Tryd.prog Tryd.f5 Rows.ratFloorsRow.domain false w args ∧ laidMetH Tryd.prog Rows.ratFloorsRow.laid w) ∧ sizedMet enc Tryd.prog Tryd.f5 (OpenSpec.ofChange Rows.ratFloorsSpec) false w args) (Rows.ratFloorsSpec.post enc Tryd.prog Tryd.f5 false true false false) :=
  law_laid (C := Tryd.checked) (E := ⟨te, [], []⟩) (s := Rows.ratFloorsSpec) own started (by kernel_rfl) Tryd.func5
    (ChangeSpec.witness_shaped (enc := enc) (C := Tryd.checked) (os := os) (X := fun w _ => laidMetH Tryd.prog Rows.ratFloorsRow.laid w) false (World.laidAll Tryd.prog os Rows.ratFloorsRow.laid) #[.string ByteArray.empty] 8 (World.laidAll_os _ _ _)
      (World.shaped_of_ZipB (by kernel_rfl) (by kernel_rfl)) (by kernel_rfl) (by kernel_rfl) (by kernel_rfl)
      (by rw [MakeChecks.laidMetH_plain _ _ _ (by kernel_rfl)]; exact laidMet_laidAll _ (by kernel_rfl) (by kernel_rfl)))
    ok laidOut (by kernel_rfl) (by kernel_rfl) (by kernel_rfl) Tryd.underlying4 rfl
    (fun ds h => by
      have h : ds.length = 1 := h
      match ds, h with
      | [d0], _ => exact ⟨rfl, rfl, rfl⟩)
    f_gamehallkeep2_RatFloors_holds ratFloors_plain
theorem over : Rows.ratFloorsRow.holds Tryd.pinned (OpenSpec.ofChange Rows.ratFloorsSpec) :=
  OpenClaim.holds_of_wide 5 Tryd.f5 rfl rfl rfl rfl rfl rfl rfl ⟨rfl, rfl, rfl, rfl, rfl⟩ rfl rfl rfl rfl rfl (by kernel_rfl) Tryd.func5 (by kernel_rfl)
    (of_decide_eq_true (by kernel_rfl)) (by unfold Func.isWrapper; first | (rw [if_pos (by decide +kernel)]; kernel_rfl) | (rw [if_neg (by decide +kernel)]; exact ⟨rfl, rfl⟩))
    (fun os started H enc _ => lifted os started H enc)
end Go.Proofs.YtjdilnkihnnfeaaDoor.ratFloors
namespace Go.Proofs.YtjdilnkihnnfeaaDoor
open Go
theorem ratFloors_holds : Rows.RatFloorsSaid := ratFloors.over
theorem ratFloors_card : Rows.RatFloorsCardSaid :=
  Claim7.holds_tied_plain_at .later [] [.data, .pinned] true (true, "9af66fbc24f6e9a007403cabd3c63cf45381eefef6f2a8d1c69ab85109b512ad") false
    ratFloors_holds (fun _ h => by cases h) (by kernel_rfl) (fun _ h => by cases h) ratFloors_row_tie rfl ⟨rfl, rfl⟩ (by kernel_rfl) rfl
    (fun f fn hf hfn => by
      obtain rfl : f = 5 := Option.some.inj ((show Tryd.prog.funcNamed "gamehall/gamehallkeep2.RatFloors" = some 5 by kernel_rfl).symm.trans hf) |>.symm
      obtain rfl : fn = Tryd.f5 := (Option.some.inj (Tryd.func5.symm.trans hfn)).symm
      exact ⟨by kernel_rfl, fun j t ht => by
        rw [Tryd.params5] at ht
        have hm : t ∈ [22] := by simpa using Array.mem_of_getElem? ht
        have hall : ([22].all fun u => !Tryd.prog.wantsStandIn u) = true := by kernel_rfl
        exact (show Tryd.prog.wantsStandIn t = false by simpa using List.all_eq_true.1 hall t hm)⟩)
    (by kernel_rfl)
end Go.Proofs.YtjdilnkihnnfeaaDoor
#print axioms Go.Proofs.YtjdilnkihnnfeaaDoor.ratFloors_card
