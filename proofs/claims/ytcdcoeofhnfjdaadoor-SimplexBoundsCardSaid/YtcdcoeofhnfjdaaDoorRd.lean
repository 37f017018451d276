/- What the functions on texts of rational numbers compute: Add, Sub, Mul, Div, Neg, Compare, Sign, Floor. -/
import Derived.Test.YtcdcoeofhnfjdaaDoorRc
namespace Go.Proofs.YtcdcoeofhnfjdaaDoor
open Go Vm
theorem we7 {r s : Rat} (hr : OkR r) (hs : OkR s) : z44 fuel [rt r, rt s] = some 0 :=
 zu0 [r, s] (by simp) fun x hx => by
  rcases List.mem_cons.1 hx with rfl | hx
  ·exact hr
  ·rw [List.mem_singleton] at hx; rw [hx]; exact hs
theorem y9l {r s : Rat} (hr : OkR r) (hs : OkR s) : z9m fuel (rt r) (rt s) = some ((r - s).num.sign, 0) := by
 unfold z9m
 obtain ⟨x, ex, hx⟩ := w7l hr
 obtain ⟨y, ey, hy⟩ := w7l hs
 rw [we7 hr hs, Option.bind_some, if_neg (by decide), ex, Option.bind_some, ey, Option.bind_some, yy2 hx hy (y2n hr) (y2n hs) (by decide), Option.bind_some]
theorem w7y {r : Rat} (hr : OkR r) : y1a fuel (rt r) = some (r.num.sign, 0) := by
 unfold y1a
 obtain ⟨x, ex, hx⟩ := w7l hr
 rw [y9m hr, Option.bind_some, if_neg (by decide), ex, Option.bind_some, z7x hx, Option.bind_some]
theorem wh8 (r : Rat) : 0 < (rtb r).length := by
 unfold rtb
 have := wg1 r.num.natAbs
 have : 0 < (dt r.num.natAbs).length := List.length_pos_iff.2 this
 simp only [List.length_append]
 omega
theorem w8j (r : Rat) : Dr (rtb r).length r := by
 have hp := wh8 r
 have l1 : (dt r.num.natAbs).length = (dig r.num.natAbs).length := by rw [dt, List.length_map]
 have l2 : (dt r.den).length = (dig r.den).length := by rw [dt, List.length_map]
 have hl : (rtb r).length = (if r.num < 0 then [45] else ([] : List Nat)).length + ((dt r.num.natAbs).length + (if r.den = 1 then ([] : List Nat) else 47 :: dt r.den).length) := by
  unfold rtb; simp only [List.length_append]
 refine ⟨(z42 _ _ (by omega)).1 (by omega), ?_⟩
 by_cases h : r.den = 1
 ·rw [h]; exact Nat.one_lt_pow (by omega) (by decide)
 ·rw [if_neg h, List.length_cons] at hl
  exact (z42 _ _ (by omega)).1 (by omega)
theorem w61 (r : Rat) : (rt r).size = (rtb r).length := by unfold rt; rw [z43]
end Go.Proofs.YtcdcoeofhnfjdaaDoor
