/- Sums of rational numbers, and lists of probabilities. -/
import Derived.Test.YtcdcoeofhnfjdaaDoorRd
namespace Go.Proofs.YtcdcoeofhnfjdaaDoor
open Go Vm
def psum : List Rat → Rat
 | [] => 0
 | r :: l => r + psum l
theorem y5q {r : Rat} : ¬ r.num.sign < 0 ↔ 0 ≤ r := by
 rw [← Rat.num_nonneg]
 rcases Int.lt_trichotomy r.num 0 with h | h | h
 ·rw [Int.sign_eq_neg_one_of_neg h]; omega
 ·rw [h]; simp
 ·rw [Int.sign_eq_one_of_pos h]; omega
end Go.Proofs.YtcdcoeofhnfjdaaDoor
