/- What the functions on texts of rational numbers compute: Add, Sub, Mul, Div, Neg, Compare, Sign, Floor. -/
import Derived.Test.YtcdcoeofhnfjdaaDoorRc
namespace Go.Proofs.YtcdcoeofhnfjdaaDoor
open Go Vm
theorem wc9 (r : Rat) : 0 < (rtb r).length := by
 unfold rtb
 have := wb1 r.num.natAbs
 have : 0 < (dt r.num.natAbs).length := List.length_pos_iff.2 this
 simp only [List.length_append]
 omega
theorem w77 (r : Rat) : Dr (rtb r).length r := by
 have hp := wc9 r
 have l1 : (dt r.num.natAbs).length = (dig r.num.natAbs).length := by rw [dt, List.length_map]
 have l2 : (dt r.den).length = (dig r.den).length := by rw [dt, List.length_map]
 have hl : (rtb r).length = (if r.num < 0 then [45] else ([] : List Nat)).length + ((dt r.num.natAbs).length + (if r.den = 1 then ([] : List Nat) else 47 :: dt r.den).length) := by
  unfold rtb; simp only [List.length_append]
 refine ⟨(z3x _ _ (by omega)).1 (by omega), ?_⟩
 by_cases h : r.den = 1
 ·rw [h]; exact Nat.one_lt_pow (by omega) (by decide)
 ·rw [if_neg h, List.length_cons] at hl
  exact (z3x _ _ (by omega)).1 (by omega)
theorem w4q (r : Rat) : (rt r).size = (rtb r).length := by unfold rt; rw [z49]
end Go.Proofs.YtcdcoeofhnfjdaaDoor
