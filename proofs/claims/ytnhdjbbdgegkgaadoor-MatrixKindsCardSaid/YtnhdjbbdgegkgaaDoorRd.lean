/- What the functions on texts of rational numbers compute: Add, Sub, Mul, Div, Neg, Compare, Sign, Floor. -/
import Derived.Test.YtnhdjbbdgegkgaaDoorRc
namespace Go.Proofs.YtnhdjbbdgegkgaaDoor
open Go Vm
theorem check2 {r s : Rat} (hr : OkR r) (hs : OkR s) : f_rat_CheckAll fuel [rt r, rt s] = some 0 :=
 checkAll_ok [r, s] (by simp) fun x hx => by
  rcases List.mem_cons.1 hx with rfl | hx
  ·exact hr
  ·rw [List.mem_singleton] at hx; rw [hx]; exact hs
theorem rt_zero : (⟨#[48]⟩ : ByteArray) = rt 0 := txt_zero.trans (rt_nat 0).symm
theorem rt_one : (⟨#[49]⟩ : ByteArray) = rt 1 := txt_one.trans (rt_nat 1).symm
theorem okr_neg {r : Rat} (h : OkR r) : OkR (-r) := ⟨by rw [Rat.neg_num, Int.natAbs_neg]; exact h.1, by rw [Rat.neg_den]; exact h.2⟩
theorem rt_pos (r : Rat) : 0 < (rtb r).length := by
 unfold rtb
 have := dt_ne r.num.natAbs
 have : 0 < (dt r.num.natAbs).length := List.length_pos_iff.2 this
 simp only [List.length_append]
 omega
theorem dr_len (r : Rat) : Dr (rtb r).length r := by
 have hp := rt_pos r
 have l1 : (dt r.num.natAbs).length = (dig r.num.natAbs).length := by rw [dt, List.length_map]
 have l2 : (dt r.den).length = (dig r.den).length := by rw [dt, List.length_map]
 have hl : (rtb r).length = (if r.num < 0 then [45] else ([] : List Nat)).length + ((dt r.num.natAbs).length + (if r.den = 1 then ([] : List Nat) else 47 :: dt r.den).length) := by
  unfold rtb; simp only [List.length_append]
 refine ⟨(dig_length _ _ (by omega)).1 (by omega), ?_⟩
 by_cases h : r.den = 1
 ·rw [h]; exact Nat.one_lt_pow (by omega) (by decide)
 ·rw [if_neg h, List.length_cons] at hl
  exact (dig_length _ _ (by omega)).1 (by omega)
theorem rt_size (r : Rat) : (rt r).size = (rtb r).length := by unfold rt; rw [sb_size]
end Go.Proofs.YtnhdjbbdgegkgaaDoor
