/- Proved: what ReplyMost says of every input whose reading is of bulk at most 1048576; the listed variables are tied to the program (the card). -/
import Derived.Test.YtbcooccafbccdaaGreatDoorCards
import Derived.Test.YtbcooccafbccdaaGreatDoorTie
import Derived.Test.YtbcooccafbccdaaGreatDoorWj
import Derived.Lay
import Derived.WalkKit
import Derived.ProofKit
import Derived.ShutString
import Derived.SevenTiedAt
namespace Go.Proofs.YtbcooccafbccdaaGreatDoor.replyMostUpto
open Go Vm
theorem own : ownKnob Tryz.prog.godebug = none := by kernel_rfl
theorem laidOut : laidOutB Tryz.prog = true := by kernel_rfl
theorem bulk_pos {H : Type} (d : DataW H) : 1 ≤ Rows.uptoBulk d := by
  cases d with
  | lit l => cases l <;> simp [Rows.uptoBulk]
  | _ => simp [Rows.uptoBulk]
theorem bulk_len {H : Type} : ∀ ds : List (DataW H), ds.length ≤ Rows.uptoBulkAll ds
  | [] => Nat.zero_le _
  | d :: r => by have h1 := bulk_len r; have h2 := bulk_pos d; rw [Rows.uptoBulkAll, List.length_cons]; omega
theorem bulk_mem {H : Type} : ∀ {ds : List (DataW H)} {d : DataW H}, d ∈ ds → Rows.uptoBulk d ≤ Rows.uptoBulkAll ds
  | d :: r, x, h => by
    rw [Rows.uptoBulkAll]
    rcases List.mem_cons.1 h with rfl | h
    · omega
    · have := bulk_mem h; omega
theorem bulk_dlen {H : Type} (d : DataW H) : dlen d ≤ Rows.uptoBulk d := by
  cases d with
  | slice es sp => have := bulk_len es; rw [Rows.uptoBulk]; show es.length ≤ _; omega
  | _ => exact Nat.zero_le _
theorem lifted (os : Os) (started : os.Started) (H : Type) (enc : TypeId × Value → H) (F : Stop.Interp) :
    ReturnsInHanded {} Tryz.checked os 5 .any (fun w args => ((Rows.OpenSpec.upto Rows.replyMostSpec).pre enc Tryz.prog Tryz.f5 Rows.replyMostUptoRow.domain false w args ∧ laidMetH Tryz.prog Rows.replyMostUptoRow.laid w) ∧ sizedMet enc Tryz.prog Tryz.f5 (Rows.OpenSpec.upto Rows.replyMostSpec) false w args) (((Rows.OpenSpec.upto Rows.replyMostSpec).at F).post enc Tryz.prog Tryz.f5 false true false false) :=
  law_upto (C := Tryz.checked) (E := { te := tep, spec := [], body := [] }) (s := (Rows.OpenSpec.upto Rows.replyMostSpec)) (k := Rows.uptoSmall) (B := 1048576) rfl F own started (by kernel_rfl) Tryz.func5
    (witness_upto (enc := enc) (C := Tryz.checked) (os := os) (s := (Rows.OpenSpec.upto Rows.replyMostSpec)) (k := Rows.uptoSmall) rfl (X := fun w _ => laidMetH Tryz.prog Rows.replyMostUptoRow.laid w) false (World.laidAll Tryz.prog os Rows.replyMostUptoRow.laid) #[.slice none 0 0, .slice none 0 0, .slice none 0 0] 8 (World.laidAll_os _ _ _)
      (World.shaped_of_ZipB (by kernel_rfl) (by kernel_rfl)) (by kernel_rfl) (by kernel_rfl) (by kernel_rfl)
      (by rw [MakeChecks.laidMetH_plain _ _ _ (by kernel_rfl)]; exact laidMet_laidAll _ (by kernel_rfl) (by kernel_rfl)))
    okp laidOut (by kernel_rfl) (by kernel_rfl) (by kernel_rfl) Tryz.underlying4 rfl
    (fun ds h => by
      have h : ds.length = 3 := h
      match ds, h with
      | [d0, d1, d2], _ => exact ⟨rfl, rfl, rfl⟩)
    (fun ds h d hd => by
      have h : Rows.uptoBulkAll ds ≤ 1048576 := of_decide_eq_true h
      exact Nat.le_trans (Nat.le_trans (bulk_dlen d) (bulk_mem hd)) h)
    f_gamehallkeep2_ReplyMost_holds replyMost_upto
theorem over : Rows.replyMostUptoRow.holds Tryz.pinned (Rows.OpenSpec.upto Rows.replyMostSpec) :=
  OpenClaim.holds_of_cond 5 Tryz.f5 rfl rfl rfl rfl rfl rfl rfl ⟨rfl, rfl, rfl, rfl, rfl⟩ rfl rfl rfl rfl rfl (by kernel_rfl) Tryz.func5 (by kernel_rfl)
    (of_decide_eq_true (by kernel_rfl)) (by unfold Func.isWrapper; first | (rw [if_pos (by decide +kernel)]; kernel_rfl) | (rw [if_neg (by decide +kernel)]; exact ⟨rfl, rfl⟩))
    (fun os started H enc _ F => lifted os started H enc F)
end Go.Proofs.YtbcooccafbccdaaGreatDoor.replyMostUpto
namespace Go.Proofs.YtbcooccafbccdaaGreatDoor
open Go
theorem replyMostUpto_holds : Rows.ReplyMostUptoSaid := replyMostUpto.over
theorem replyMostUpto_card : Rows.ReplyMostUptoCardSaid :=
  Claim7.holds_tied_plain_at .later [] [.data, .pinned] true (true, "f07973fbcf431aa23b2cb3f71c0f1f4e67b975b44ab5dccd7d0b2029dfa146cc") false
    replyMostUpto_holds (fun _ h => by cases h) (by kernel_rfl) (fun _ h => by cases h) replyMostUpto_row_tie rfl ⟨rfl, rfl⟩ (by kernel_rfl) rfl
    (fun f fn hf hfn => by
      obtain rfl : f = 5 := Option.some.inj ((show Tryz.prog.funcNamed "gamehall/gamehallkeep2.ReplyMost" = some 5 by kernel_rfl).symm.trans hf) |>.symm
      obtain rfl : fn = Tryz.f5 := (Option.some.inj (Tryz.func5.symm.trans hfn)).symm
      exact ⟨by kernel_rfl, fun j t ht => by
        rw [Tryz.params5] at ht
        have hm : t ∈ [22, 23, 23] := by simpa using Array.mem_of_getElem? ht
        have hall : ([22, 23, 23].all fun u => !Tryz.prog.wantsStandIn u) = true := by kernel_rfl
        exact (show Tryz.prog.wantsStandIn t = false by simpa using List.all_eq_true.1 hall t hm)⟩)
    (by kernel_rfl)
end Go.Proofs.YtbcooccafbccdaaGreatDoor
#print axioms Go.Proofs.YtbcooccafbccdaaGreatDoor.replyMostUpto_card
