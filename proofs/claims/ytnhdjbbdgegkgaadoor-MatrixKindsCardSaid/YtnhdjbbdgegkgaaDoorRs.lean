/- Sums of rational numbers, and lists of probabilities. -/
import Derived.Test.YtnhdjbbdgegkgaaDoorRd
namespace Go.Proofs.YtnhdjbbdgegkgaaDoor
open Go Vm
def psum : List Rat → Rat
 | [] => 0
 | r :: l => r + psum l
theorem psum_snoc : ∀ (l : List Rat) (r : Rat), psum (l ++ [r]) = psum l + r
 | [], r => by simp only [List.nil_append, psum]; grind
 | a :: l, r => by rw [List.cons_append, psum, psum_snoc l r, psum]; grind
theorem okr0 : OkR 0 := dr_okr (k := 1) (dr_zero (by decide)) (by decide) (by decide)
theorem nonneg_num {r : Rat} : ¬ r.num.sign < 0 ↔ 0 ≤ r := by
 rw [← Rat.num_nonneg]
 rcases Int.lt_trichotomy r.num 0 with h | h | h
 ·rw [Int.sign_eq_neg_one_of_neg h]; omega
 ·rw [h]; simp
 ·rw [Int.sign_eq_one_of_pos h]; omega
end Go.Proofs.YtnhdjbbdgegkgaaDoor
