/- The plain laws of rational numbers: field, order, floors. -/
import Derived.Test.YtjdilnkihnnfeaaDoorRd
import Derived.Test.YtjdilnkihnnfeaaDoorVmD
namespace Go.Proofs.YtjdilnkihnnfeaaDoor
open Go Vm

theorem ratFact_true : f_gamehallkeep2_ratFact fuel = some true := by kernel_rfl

theorem field_true (a b c : ByteArray) (ha : a.size ≤ 900000000000000) (hb : b.size ≤ 900000000000000) (hc : c.size ≤ 900000000000000) : f_gamehallkeep2_RatField fuel a b c = some true := by
  unfold f_gamehallkeep2_RatField
  rw [ratFact_true, Option.bind_some, if_neg (by decide)]
  rcases check3 ha hb hc with ⟨e, e0, h⟩ | ⟨r, s, t, rfl, rfl, rfl, or', os, ot, h⟩
  · rw [h, Option.bind_some, if_neg (by simpa using e0)]
  rw [h, Option.bind_some, if_pos (by decide), rt_size, rt_size, rt_size]
  have l1 := okr_len or'; have l2 := okr_len os; have l3 := okr_len ot
  rw [w64 ((((rtb r).length : Nat) : Int) + (((rtb s).length : Nat) : Int)) (by omega) (by omega), w64 _ (by omega) (by omega)]
  by_cases hl : (rtb r).length + (rtb s).length + (rtb t).length > 400
  · rw [if_pos (by simp only [decide_eq_true_eq]; omega)]
  rw [if_neg (by simp only [decide_eq_true_eq]; omega)]
  have p1 := rt_pos r; have p2 := rt_pos s; have p3 := rt_pos t
  have d1 := dr_len r; have d2 := dr_len s; have d3 := dr_len t
  have o1 : OkR (s + t) := dr_okr (dr_add d2 d3) (by omega) (by omega)
  have o2 : OkR (r * (s + t)) := dr_okr (dr_mul d1 (dr_add d2 d3)) (by omega) (by omega)
  have o3 : OkR (r * s) := dr_okr (dr_mul d1 d2) (by omega) (by omega)
  have o4 : OkR (r * t) := dr_okr (dr_mul d1 d3) (by omega) (by omega)
  have e1 : r * s + r * t = r * (s + t) := (Rat.mul_add r s t).symm
  have e2 : s + t - t = s := by grind
  have hf : f_gamehallkeep2_fine fuel [0, 0, 0, 0, 0, 0] = some true := by kernel_rfl
  rw [rat_add os ot o1, Option.bind_some, rat_mul or' o1 o2, Option.bind_some, rat_mul or' os o3, Option.bind_some, rat_mul or' ot o4, Option.bind_some, rat_add o3 o4 (e1 ▸ o2), Option.bind_some, rat_sub o1 ot (e2.symm ▸ os), Option.bind_some, e1, e2]
  by_cases h0 : s = 0
  · subst h0
    rw [rat_div0 o3 os, Option.bind_some]
    simp only [hf, Option.bind_some, rt_eq, rt_zero, decide_true]
    rfl
  · have e3 : r * s / s = r := by grind
    rw [rat_div o3 os h0 (e3.symm ▸ or'), Option.bind_some, e3]
    simp only [hf, Option.bind_some, rt_eq, rt_zero, decide_true, show decide (s = 0) = false by simpa using h0]
    rfl

theorem sign_neg (r : Rat) : (-r).num.sign = - r.num.sign := by rw [Rat.neg_num, Int.sign_neg]
theorem sign_range (n : Int) : -1 ≤ n.sign ∧ n.sign ≤ 1 := by
  rcases Int.lt_trichotomy n 0 with h | h | h
  · rw [Int.sign_eq_neg_one_of_neg h]; decide
  · rw [h]; decide
  · rw [Int.sign_eq_one_of_pos h]; decide
theorem sign_zero (r s : Rat) : ((r - s).num.sign == 0) = decide (r = s) := by
  rw [Bool.eq_iff_iff, beq_iff_eq, decide_eq_true_eq, Int.sign_eq_zero_iff_zero, Rat.num_eq_zero]
  constructor
  · intro h; grind
  · intro h; grind
theorem order_true (a b c : ByteArray) (ha : a.size ≤ 900000000000000) (hb : b.size ≤ 900000000000000) (hc : c.size ≤ 900000000000000) : f_gamehallkeep2_RatOrder fuel a b c = some true := by
  unfold f_gamehallkeep2_RatOrder
  rw [ratFact_true, Option.bind_some, if_neg (by decide)]
  rcases check3 ha hb hc with ⟨e, e0, h⟩ | ⟨r, s, t, rfl, rfl, rfl, or', os, ot, h⟩
  · rw [h, Option.bind_some, if_neg (by simpa using e0)]
  rw [h, Option.bind_some, if_pos (by decide), rt_size, rt_size, rt_size]
  have l1 := okr_len or'; have l2 := okr_len os; have l3 := okr_len ot
  rw [w64 ((((rtb r).length : Nat) : Int) + (((rtb s).length : Nat) : Int)) (by omega) (by omega), w64 _ (by omega) (by omega)]
  by_cases hl : (rtb r).length + (rtb s).length + (rtb t).length > 400
  · rw [if_pos (by simp only [decide_eq_true_eq]; omega)]
  rw [if_neg (by simp only [decide_eq_true_eq]; omega)]
  have p1 := rt_pos r; have p2 := rt_pos s; have p3 := rt_pos t
  have d1 := dr_len r; have d2 := dr_len s; have d3 := dr_len t
  have o1 : OkR (r - s) := dr_okr (dr_sub d1 d2) (by omega) (by omega)
  have o2 : OkR (r + t) := dr_okr (dr_add d1 d3) (by omega) (by omega)
  have o3 : OkR (s + t) := dr_okr (dr_add d2 d3) (by omega) (by omega)
  have e1 : r + t - (s + t) = r - s := by grind
  have hf : f_gamehallkeep2_fine fuel [0, 0, 0, 0, 0, 0, 0, 0] = some true := by kernel_rfl
  rw [rat_compare or' os, Option.bind_some, rat_sub or' os o1, Option.bind_some, rat_sign o1, Option.bind_some, rat_add or' ot o2, Option.bind_some, rat_add os ot o3, Option.bind_some, rat_compare o2 o3, Option.bind_some, rat_neg o1, Option.bind_some, rat_sign (okr_neg o1), Option.bind_some, e1, sign_neg]
  have hw : IntKind.i64.wrap (0 - (r - s).num.sign) = -(r - s).num.sign := by
    have := sign_range (r - s).num
    rw [w64 _ (by omega) (by omega)]; omega
  simp only [hf, Option.bind_some, hw, sign_zero, rt_eq]
  simp

theorem floors_true (a : ByteArray) (ha : a.size ≤ 900000000000000) : f_gamehallkeep2_RatFloors fuel a = some true := by
  unfold f_gamehallkeep2_RatFloors
  rw [ratFact_true, Option.bind_some, if_neg (by decide)]
  rcases rcheck_spec a ha with ⟨e, e0, h⟩ | ⟨r, rfl, hr⟩
  · have : f_rat_Floor fuel a = some (⟨#[]⟩, e) := by
      unfold f_rat_Floor
      rw [h, Option.bind_some, if_pos (ne0 e0)]
    rw [this, Option.bind_some, if_neg (by simpa using e0), if_pos (by simpa using e0), toList_nil]
  rw [rat_floor hr, Option.bind_some, if_pos (by simp), rt_size]
  by_cases hl : (rtb r).length > 1900
  · rw [if_pos (by simp only [decide_eq_true_eq]; omega), if_neg (by simp)]
  rw [if_neg (by simp only [decide_eq_true_eq]; omega)]
  have p1 := rt_pos r
  have d1 := dr_len r
  have hden : 0 < r.den := Nat.pos_of_ne_zero r.den_nz
  have hval : r - (r.floor : Rat) = mkRat (r.num % (r.den : Int)) r.den := by
    rw [Rat.sub_def', Rat.num_intCast, Rat.den_intCast, Rat.floor_def]
    have := Int.mul_ediv_add_emod r.num (r.den : Int)
    congr 1
    · rw [Int.mul_comm] at this
      simp only [Int.natCast_one, Int.mul_one]
      omega
    · rw [Nat.mul_one]
  have hm0 := Int.emod_nonneg r.num (show (r.den : Int) ≠ 0 by omega)
  have hm1 := Int.emod_lt_of_pos r.num (show (0 : Int) < (r.den : Int) by omega)
  have o1 : OkR (r - (r.floor : Rat)) := dr_okr (k := (rtb r).length) (by
    rw [hval]
    exact dr_mk r.den_nz (Nat.lt_of_lt_of_le (show (r.num % (r.den : Int)).natAbs < r.den by omega) (Nat.le_of_lt d1.2)) d1.2) (by omega) (by omega)
  have of' := okr_floor hr
  have o2 : OkR 1 := dr_okr (k := 1) (dr_nat (n := 1) (by decide) (by decide)) (by decide) (by decide)
  have s1 : 0 ≤ (r - (r.floor : Rat)).num.sign := by
    rw [Int.sign_nonneg_iff, Rat.num_nonneg]
    have := Rat.floor_le r
    grind
  have s2 : (r - (r.floor : Rat) - 1).num.sign < 0 := by
    have h1 : ¬ 0 ≤ r - (r.floor : Rat) - 1 := by
      have := Rat.lt_floor_add_one r
      rw [Rat.intCast_add] at this
      grind
    rw [← Rat.num_nonneg] at h1
    rw [Int.sign_eq_neg_one_of_neg (by omega)]; decide
  have ff : ((r.floor : Rat)).floor = r.floor := Rat.floor_intCast _
  have hf : f_gamehallkeep2_fine fuel [0, 0, 0, 0] = some true := by kernel_rfl
  rw [rat_sub hr of' o1, Option.bind_some, rat_sign o1, Option.bind_some, rt_one, rat_compare o1 o2, Option.bind_some, rat_floor of', Option.bind_some, ff]
  simp only [hf, Option.bind_some, rt_eq, decide_true, if_true]
  rw [if_pos (by simpa using s1), if_pos (by simpa using s2)]

theorem ratField_plain : ∀ x : ByteArray × ByteArray × ByteArray, WfL [.str, .str, .str] x → f_gamehallkeep2_RatField fuel x.1 x.2.1 x.2.2 = some true := fun x h => field_true x.1 x.2.1 x.2.2 (Nat.le_trans h.1 (by decide)) (Nat.le_trans h.2.1 (by decide)) (Nat.le_trans h.2.2 (by decide))
theorem ratOrder_plain : ∀ x : ByteArray × ByteArray × ByteArray, WfL [.str, .str, .str] x → f_gamehallkeep2_RatOrder fuel x.1 x.2.1 x.2.2 = some true := fun x h => order_true x.1 x.2.1 x.2.2 (Nat.le_trans h.1 (by decide)) (Nat.le_trans h.2.1 (by decide)) (Nat.le_trans h.2.2 (by decide))
theorem ratFloors_plain : ∀ x : ByteArray, WfL [.str] x → f_gamehallkeep2_RatFloors fuel x = some true := fun x h => floors_true x (Nat.le_trans h (by decide))
end Go.Proofs.YtjdilnkihnnfeaaDoor
