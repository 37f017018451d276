/- The plain law of DealEach. -/
import Derived.Test.YtnlclnheakhncaaDoorDd
namespace Go.Proofs.YtnlclnheakhncaaDoor
open Go Vm

theorem each_at {k : Nat} {n : Int} (h : ((ways k).all fun o => f_gamehallkeep2_DealEach fuel n (zs o) == some true) = true) {ds : List Nat} (hl : ds.length = k) (hf : Fit k ds) : f_gamehallkeep2_DealEach fuel n (zs ds) = some true := by
  rw [List.all_eq_true] at h
  exact beq_iff_eq.1 (h ds (fit_ways k ds hl hf))

theorem pick_small : ∀ n : Nat, n < 5 → f_gamehallkeep2_pick fuel (n : Int) 5 = some (n : Int)
  | 0, _ => by kernel_rfl
  | 1, _ => by kernel_rfl
  | 2, _ => by kernel_rfl
  | 3, _ => by kernel_rfl
  | 4, _ => by kernel_rfl

theorem dealEach_true (a : Int) (o : List Int) : f_gamehallkeep2_DealEach fuel a o = some true := by
  obtain ⟨n, hn, e⟩ : ∃ n : Nat, n < 5 ∧ f_gamehallkeep2_pick fuel a 5 = some (n : Int) := by
    unfold f_gamehallkeep2_pick
    have h4 : IntKind.u64.wrap 5 = 5 := rfl
    have hz : 0 ≤ IntKind.u64.wrap a := by
      simp [IntKind.wrap, IntKind.bits, IntKind.signed]; omega
    obtain ⟨m, hm⟩ : ∃ m : Nat, IntKind.u64.wrap a = (m : Int) := ⟨(IntKind.u64.wrap a).toNat, by omega⟩
    refine ⟨m % 5, Nat.mod_lt _ (by decide), ?_⟩
    rw [h4, if_neg (by decide), hm, show ((m : Int).tmod 5) = ((m % 5 : Nat) : Int) from (Int.ofNat_tmod m 5).symm, w64 _ (by omega) (by omega)]
  have key : f_gamehallkeep2_DealEach fuel a o = f_gamehallkeep2_DealEach fuel (n : Int) o := by
    unfold f_gamehallkeep2_DealEach
    rw [e, pick_small n hn]
  rw [key]
  rcases fits_ok (n := n) (by omega) o with ⟨⟨e1, e0, h⟩, _⟩ | ⟨_, ds, rfl, hl, hf⟩
  · unfold f_gamehallkeep2_DealEach
    rw [dealFact_true, Option.bind_some, if_pos (by decide), f6_true, Option.bind_some, if_neg (by decide), pick_small n hn, Option.bind_some, h, Option.bind_some, if_pos (by simpa using e0)]
  · have h5 : n = 0 ∨ n = 1 ∨ n = 2 ∨ n = 3 ∨ n = 4 := by omega
    clear key e hn
    rcases h5 with rfl | rfl | rfl | rfl | rfl
    · exact each_at (n := 0) each0 hl hf
    · exact each_at (n := 1) each1 hl hf
    · exact each_at (n := 2) each2 hl hf
    · exact each_at (n := 3) each3 hl hf
    · exact each4 ds (fit_ways 3 ds hl hf)
theorem dealEach_plain : ∀ x : Int × List Int, WfL [.int .i64, .slice (.int .i64)] x → f_gamehallkeep2_DealEach fuel x.1 x.2 = some true := fun x _ => dealEach_true x.1 x.2
end Go.Proofs.YtnlclnheakhncaaDoor
