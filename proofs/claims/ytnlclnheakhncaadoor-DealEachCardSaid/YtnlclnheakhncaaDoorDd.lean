/- The plain law of DealEach: the inputs that are not refused are few, and each is computed. -/
import Derived.Test.YtnlclnheakhncaaDoorCb
namespace Go.Proofs.YtnlclnheakhncaaDoor
open Go Vm

theorem dealFact_true : f_gamehallkeep2_dealFact fuel = some true := by kernel_rfl

def ways : Nat → List (List Nat)
  | 0 => [[]]
  | k + 1 => (List.range (k + 2)).flatMap fun d => (ways k).map (d :: ·)
theorem fit_ways : ∀ (k : Nat) (ds : List Nat), ds.length = k → Fit k ds → ds ∈ ways k
  | 0, ds, h, _ => by rw [List.length_eq_zero_iff.1 h]; simp [ways]
  | k + 1, [], h, _ => by simp at h
  | k + 1, d :: ds, h, hf => by
    have hd : d ≤ k + 1 ∧ Fit k ds := hf
    rw [ways, List.mem_flatMap]
    exact ⟨d, List.mem_range.2 (by omega), List.mem_map.2 ⟨ds, fit_ways k ds (by simpa using h) hd.2, rfl⟩⟩

theorem each0 : ((ways 0).all fun o => f_gamehallkeep2_DealEach fuel 0 (zs o) == some true) = true := by kernel_rfl
theorem each1 : ((ways 0).all fun o => f_gamehallkeep2_DealEach fuel 1 (zs o) == some true) = true := by kernel_rfl
theorem each2 : ((ways 1).all fun o => f_gamehallkeep2_DealEach fuel 2 (zs o) == some true) = true := by kernel_rfl
theorem each3 : ((ways 2).all fun o => f_gamehallkeep2_DealEach fuel 3 (zs o) == some true) = true := by kernel_rfl
theorem each4_000 : f_gamehallkeep2_DealEach fuel 4 [0, 0, 0] = some true := by kernel_rfl
theorem each4_001 : f_gamehallkeep2_DealEach fuel 4 [0, 0, 1] = some true := by kernel_rfl
theorem each4_010 : f_gamehallkeep2_DealEach fuel 4 [0, 1, 0] = some true := by kernel_rfl
theorem each4_011 : f_gamehallkeep2_DealEach fuel 4 [0, 1, 1] = some true := by kernel_rfl
theorem each4_020 : f_gamehallkeep2_DealEach fuel 4 [0, 2, 0] = some true := by kernel_rfl
theorem each4_021 : f_gamehallkeep2_DealEach fuel 4 [0, 2, 1] = some true := by kernel_rfl
theorem each4_100 : f_gamehallkeep2_DealEach fuel 4 [1, 0, 0] = some true := by kernel_rfl
theorem each4_101 : f_gamehallkeep2_DealEach fuel 4 [1, 0, 1] = some true := by kernel_rfl
theorem each4_110 : f_gamehallkeep2_DealEach fuel 4 [1, 1, 0] = some true := by kernel_rfl
theorem each4_111 : f_gamehallkeep2_DealEach fuel 4 [1, 1, 1] = some true := by kernel_rfl
theorem each4_120 : f_gamehallkeep2_DealEach fuel 4 [1, 2, 0] = some true := by kernel_rfl
theorem each4_121 : f_gamehallkeep2_DealEach fuel 4 [1, 2, 1] = some true := by kernel_rfl
theorem each4_200 : f_gamehallkeep2_DealEach fuel 4 [2, 0, 0] = some true := by kernel_rfl
theorem each4_201 : f_gamehallkeep2_DealEach fuel 4 [2, 0, 1] = some true := by kernel_rfl
theorem each4_210 : f_gamehallkeep2_DealEach fuel 4 [2, 1, 0] = some true := by kernel_rfl
theorem each4_211 : f_gamehallkeep2_DealEach fuel 4 [2, 1, 1] = some true := by kernel_rfl
theorem each4_220 : f_gamehallkeep2_DealEach fuel 4 [2, 2, 0] = some true := by kernel_rfl
theorem each4_221 : f_gamehallkeep2_DealEach fuel 4 [2, 2, 1] = some true := by kernel_rfl
theorem each4_300 : f_gamehallkeep2_DealEach fuel 4 [3, 0, 0] = some true := by kernel_rfl
theorem each4_301 : f_gamehallkeep2_DealEach fuel 4 [3, 0, 1] = some true := by kernel_rfl
theorem each4_310 : f_gamehallkeep2_DealEach fuel 4 [3, 1, 0] = some true := by kernel_rfl
theorem each4_311 : f_gamehallkeep2_DealEach fuel 4 [3, 1, 1] = some true := by kernel_rfl
theorem each4_320 : f_gamehallkeep2_DealEach fuel 4 [3, 2, 0] = some true := by kernel_rfl
theorem each4_321 : f_gamehallkeep2_DealEach fuel 4 [3, 2, 1] = some true := by kernel_rfl
theorem each4 : ∀ o, o ∈ ways 3 → f_gamehallkeep2_DealEach fuel 4 (zs o) = some true := by
  have e : ways 3 = [[0, 0, 0], [0, 0, 1], [0, 1, 0], [0, 1, 1], [0, 2, 0], [0, 2, 1], [1, 0, 0], [1, 0, 1], [1, 1, 0], [1, 1, 1], [1, 2, 0], [1, 2, 1], [2, 0, 0], [2, 0, 1], [2, 1, 0], [2, 1, 1], [2, 2, 0], [2, 2, 1], [3, 0, 0], [3, 0, 1], [3, 1, 0], [3, 1, 1], [3, 2, 0], [3, 2, 1]] := by decide
  rw [e]
  exact List.forall_mem_cons.2 ⟨each4_000, List.forall_mem_cons.2 ⟨each4_001, List.forall_mem_cons.2 ⟨each4_010, List.forall_mem_cons.2 ⟨each4_011, List.forall_mem_cons.2 ⟨each4_020, List.forall_mem_cons.2 ⟨each4_021, List.forall_mem_cons.2 ⟨each4_100, List.forall_mem_cons.2 ⟨each4_101, List.forall_mem_cons.2 ⟨each4_110, List.forall_mem_cons.2 ⟨each4_111, List.forall_mem_cons.2 ⟨each4_120, List.forall_mem_cons.2 ⟨each4_121, List.forall_mem_cons.2 ⟨each4_200, List.forall_mem_cons.2 ⟨each4_201, List.forall_mem_cons.2 ⟨each4_210, List.forall_mem_cons.2 ⟨each4_211, List.forall_mem_cons.2 ⟨each4_220, List.forall_mem_cons.2 ⟨each4_221, List.forall_mem_cons.2 ⟨each4_300, List.forall_mem_cons.2 ⟨each4_301, List.forall_mem_cons.2 ⟨each4_310, List.forall_mem_cons.2 ⟨each4_311, List.forall_mem_cons.2 ⟨each4_320, List.forall_mem_cons.2 ⟨each4_321, (fun _ h => by cases h)⟩⟩⟩⟩⟩⟩⟩⟩⟩⟩⟩⟩⟩⟩⟩⟩⟩⟩⟩⟩⟩⟩⟩⟩
end Go.Proofs.YtnlclnheakhncaaDoor
