/- Proved: what MatgameSafe says of every input; the listed variables are tied to the program (the card). Conditions: none besides. -/
import Derived.Test.YtcdcoeofhnfjdaaGreatDoorCards
import Derived.Test.YtcdcoeofhnfjdaaGreatDoorTie
import Derived.Test.YtcdcoeofhnfjdaaGreatDoorL3
import Derived.Lay
import Derived.WalkKit
import Derived.ProofKit
import Derived.ShutString
import Derived.SevenTiedAt
namespace Go.Proofs.YtcdcoeofhnfjdaaGreatDoor.matgameSafe
open Go Vm
theorem own : ownKnob Tryz.prog.godebug = none := by kernel_rfl
theorem laidOut : laidOutB Tryz.prog = true := by kernel_rfl
theorem lifted (os : Os) (started : os.Started) (H : Type) (enc : TypeId × Value → H) :
    ReturnsInHanded {} Tryz.checked os 4 .any (fun w args => (Rows.matgameSafeSpec.pre enc Tryz.prog Tryz.f4 Rows.matgameSafeRow.domain false w args ∧ laidMetH Tryz.prog Rows.matgameSafeRow.laid w) ∧ sizedMet enc Tryz.prog Tryz.f4 (OpenSpec.ofChange Rows.matgameSafeSpec) false w args) (Rows.matgameSafeSpec.post enc Tryz.prog Tryz.f4 false true false false) :=
  wm0 (C := Tryz.checked) (E := { te := te, spec := [], body := [] }) (s := Rows.matgameSafeSpec) own started (by kernel_rfl) Tryz.func4
    (ChangeSpec.witness_shaped (enc := enc) (C := Tryz.checked) (os := os) (X := fun w _ => laidMetH Tryz.prog Rows.matgameSafeRow.laid w) false (World.laidAll Tryz.prog os Rows.matgameSafeRow.laid) #[.slice none 0 0, .slice none 0 0, .slice none 0 0] 8 (World.laidAll_os _ _ _)
      (World.shaped_of_ZipB (by kernel_rfl) (by kernel_rfl)) (by kernel_rfl) (by kernel_rfl) (by kernel_rfl)
      (by rw [MakeChecks.laidMetH_plain _ _ _ (by kernel_rfl)]; exact laidMet_laidAll _ (by kernel_rfl) (by kernel_rfl)))
    ok laidOut (by kernel_rfl) (by kernel_rfl) (by kernel_rfl) Tryz.underlying4 rfl
    (fun ds h => by
      have h : ds.length = 3 := h
      match ds, h with
      | [d0, d1, d2], _ => exact ⟨rfl, rfl, rfl⟩)
    zc1 matgameSafe_plain
theorem over : Rows.matgameSafeRow.holds Tryz.pinned (OpenSpec.ofChange Rows.matgameSafeSpec) :=
  OpenClaim.holds_of_wide 4 Tryz.f4 rfl rfl rfl rfl rfl rfl rfl ⟨rfl, rfl, rfl, rfl, rfl⟩ rfl rfl rfl rfl rfl (by kernel_rfl) Tryz.func4 (by kernel_rfl)
    (of_decide_eq_true (by kernel_rfl)) (by unfold Func.isWrapper; first | (rw [if_pos (by decide +kernel)]; kernel_rfl) | (rw [if_neg (by decide +kernel)]; exact ⟨rfl, rfl⟩))
    (fun os started H enc _ => lifted os started H enc)
end Go.Proofs.YtcdcoeofhnfjdaaGreatDoor.matgameSafe
namespace Go.Proofs.YtcdcoeofhnfjdaaGreatDoor
open Go
theorem matgameSafe_holds : Rows.MatgameSafeSaid := matgameSafe.over
theorem matgameSafe_card : Rows.MatgameSafeCardSaid :=
  Claim7.holds_tied_plain_at .later [] [.data, .pinned] true (true, "cfe27b6c73851dc18f6b02f4a4f9b7e57f9881646765ab38fe2d145b4ea2d66c") false
    matgameSafe_holds (fun _ h => by cases h) (by kernel_rfl) (fun _ h => by cases h) matgameSafe_row_tie rfl ⟨rfl, rfl⟩ (by kernel_rfl) rfl
    (fun f fn hf hfn => by
      obtain rfl : f = 4 := Option.some.inj ((show Tryz.prog.funcNamed "gamehall/gamehallkeep2.MatgameSafe" = some 4 by kernel_rfl).symm.trans hf) |>.symm
      obtain rfl : fn = Tryz.f4 := (Option.some.inj (Tryz.func4.symm.trans hfn)).symm
      exact ⟨by kernel_rfl, fun j t ht => by
        rw [Tryz.params4] at ht
        have hm : t ∈ [23, 28, 28] := by simpa using Array.mem_of_getElem? ht
        have hall : ([23, 28, 28].all fun u => !Tryz.prog.wantsStandIn u) = true := by kernel_rfl
        exact (show Tryz.prog.wantsStandIn t = false by simpa using List.all_eq_true.1 hall t hm)⟩)
    (by kernel_rfl)
end Go.Proofs.YtcdcoeofhnfjdaaGreatDoor
#print axioms Go.Proofs.YtcdcoeofhnfjdaaGreatDoor.matgameSafe_card
