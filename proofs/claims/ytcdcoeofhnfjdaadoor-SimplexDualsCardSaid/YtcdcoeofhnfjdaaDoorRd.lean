/- What the functions on texts of rational numbers compute: Add, Sub, Mul, Div, Neg, Compare, Sign, Floor. -/
import Derived.Test.YtcdcoeofhnfjdaaDoorRc
namespace Go.Proofs.YtcdcoeofhnfjdaaDoor
open Go Vm
theorem w5i {r : Rat} (hr : OkR r) : y08 fuel (rt r) = some (rt (-r), 0) := by
 unfold y08
 obtain ⟨x, ex, hx⟩ := wf5 hr
 obtain ⟨z, ez, hz⟩ := y9a hx
 rw [y9b hr, Option.bind_some, if_neg (by decide), ex, Option.bind_some, ez, Option.bind_some, w5a hz (zp9 (w0r hr)) (by decide), Option.bind_some]
theorem yw1 {r : Rat} (h : OkR r) : OkR (-r) := ⟨by rw [Rat.neg_num, Int.natAbs_neg]; exact h.1, by rw [Rat.neg_den]; exact h.2⟩
theorem wg3 (r : Rat) : 0 < (rtb r).length := by
 unfold rtb
 have := we6 r.num.natAbs
 have : 0 < (dt r.num.natAbs).length := List.length_pos_iff.2 this
 simp only [List.length_append]
 omega
theorem w84 (r : Rat) : Dr (rtb r).length r := by
 have hp := wg3 r
 have l1 : (dt r.num.natAbs).length = (dig r.num.natAbs).length := by rw [dt, List.length_map]
 have l2 : (dt r.den).length = (dig r.den).length := by rw [dt, List.length_map]
 have hl : (rtb r).length = (if r.num < 0 then [45] else ([] : List Nat)).length + ((dt r.num.natAbs).length + (if r.den = 1 then ([] : List Nat) else 47 :: dt r.den).length) := by
  unfold rtb; simp only [List.length_append]
 refine ⟨(z44 _ _ (by omega)).1 (by omega), ?_⟩
 by_cases h : r.den = 1
 ·rw [h]; exact Nat.one_lt_pow (by omega) (by decide)
 ·rw [if_neg h, List.length_cons] at hl
  exact (z44 _ _ (by omega)).1 (by omega)
theorem w5m (r : Rat) : (rt r).size = (rtb r).length := by unfold rt; rw [z45]
end Go.Proofs.YtcdcoeofhnfjdaaDoor
