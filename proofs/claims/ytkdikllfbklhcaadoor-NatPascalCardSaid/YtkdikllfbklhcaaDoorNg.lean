/- What the functions on texts of numbers compute: Add, Sub, Mul, Divide, Compare, Gcd. -/
import Derived.Test.YtkdikllfbklhcaaDoorNf
namespace Go.Proofs.YtkdikllfbklhcaaDoor
open Go Vm

/-- The numbers that texts may have. -/
def Ok (n : Nat) : Prop := (dig n).length ≤ 2000
instance (n : Nat) : Decidable (Ok n) := inferInstanceAs (Decidable ((dig n).length ≤ 2000))
theorem ok_le {a b : Nat} (h : a ≤ b) (hb : Ok b) : Ok a := Nat.le_trans (dig_mono h) hb
theorem len_of {n k : Nat} (h : (dig n).length ≤ 9 * k) (hk : k ≤ 4194304) : Sz n := Nat.le_trans (cn_of_dig h) hk
theorem ok_sz {n : Nat} (h : Ok n) : Sz n := len_of (k := 223) (by unfold Ok at h; omega) (by decide)
theorem check_txt {n : Nat} (h : Ok n) : f_nat_Check fuel (txt n) = some 0 := by
  unfold Ok at h
  rw [check_ok n (by omega), if_pos h]
theorem read_txt {n : Nat} (h : Ok n) : f_nat_Read fuel (txt n) = some (zs (cn n)) := read_ok n (by unfold Ok at h; omega)
theorem both_ok {m n : Nat} (hm : Ok m) (hn : Ok n) : f_nat_both fuel (txt m) (txt n) = some (zs (cn m), zs (cn n), 0) := by
  unfold f_nat_both
  rw [check_txt hm, Option.bind_some, if_neg (by decide), check_txt hn, Option.bind_some, if_neg (by decide), read_txt hm, Option.bind_some, read_txt hn, Option.bind_some]
theorem ne0 {e : Int} (h : e ≠ 0) : (e != 0) = true := by simpa using h
theorem both_spec (a b : ByteArray) (ha : a.size ≤ 4611686018427387904) (hb : b.size ≤ 4611686018427387904) :
    (∃ e : Int, e ≠ 0 ∧ f_nat_both fuel a b = some ([], [], e)) ∨ ∃ m n, a = txt m ∧ b = txt n ∧ Ok m ∧ Ok n := by
  rcases check_spec a ha with ⟨e, h0, h, _⟩ | ⟨m, rfl, hm, h⟩
  · refine .inl ⟨e, h0, ?_⟩
    unfold f_nat_both
    rw [h, Option.bind_some, if_pos (ne0 h0)]
  · rcases check_spec b hb with ⟨e, h0, h', _⟩ | ⟨n, rfl, hn, h'⟩
    · refine .inl ⟨e, h0, ?_⟩
      unfold f_nat_both
      rw [h, Option.bind_some, if_neg (by decide), h', Option.bind_some, if_pos (ne0 h0)]
    · exact .inr ⟨m, n, rfl, rfl, hm, hn⟩
theorem told_ok {n : Nat} (hs : (cn n).length ≤ 8388608) (h : Ok n) : f_nat_told fuel (zs (cn n)) = some (txt n, 0) := by
  unfold f_nat_told
  unfold Ok at h
  rw [text_ok n hs, Option.bind_some, txt_size, if_neg (by simp only [decide_eq_true_eq]; omega)]
theorem told_no {n : Nat} (hs : (cn n).length ≤ 8388608) (h : ¬ Ok n) : f_nat_told fuel (zs (cn n)) = some (⟨#[]⟩, 2) := by
  unfold f_nat_told
  unfold Ok at h
  rw [text_ok n hs, Option.bind_some, txt_size, if_pos (by simp only [decide_eq_true_eq]; omega)]
theorem sz8 {n : Nat} (h : Sz n) : (cn n).length ≤ 8388608 := by unfold Sz at h; omega

theorem nat_add {m n : Nat} (hm : Ok m) (hn : Ok n) (h : Ok (m + n)) : f_nat_Add fuel (txt m) (txt n) = some (txt (m + n), 0) := by
  unfold f_nat_Add
  rw [both_ok hm hn, Option.bind_some, if_neg (by simp), add_ok (ok_sz hm) (ok_sz hn), Option.bind_some, told_ok (sz8 (ok_sz h)) h, Option.bind_some]
theorem nat_mul {m n : Nat} (hm : Ok m) (hn : Ok n) (h : Ok (m * n)) : f_nat_Mul fuel (txt m) (txt n) = some (txt (m * n), 0) := by
  unfold f_nat_Mul
  rw [both_ok hm hn, Option.bind_some, if_neg (by simp), mul_ok (ok_sz hm) (ok_sz hn), Option.bind_some, told_ok (sz8 (ok_sz h)) h, Option.bind_some]
theorem nat_sub {m n : Nat} (hm : Ok m) (hn : Ok n) (h : n ≤ m) : f_nat_Sub fuel (txt m) (txt n) = some (txt (m - n), 0) := by
  have h1 : Ok (m - n) := ok_le (Nat.sub_le _ _) hm
  unfold f_nat_Sub
  rw [both_ok hm hn, Option.bind_some, if_neg (by simp), cmp_ok (ok_sz hm) (ok_sz hn), Option.bind_some, if_neg (show ¬ m < n by omega), if_neg (by split <;> decide), sub_ok (ok_sz hm) h, Option.bind_some, told_ok (sz8 (ok_sz h1)) h1, Option.bind_some]
theorem nat_sub_no {m n : Nat} (hm : Ok m) (hn : Ok n) (h : m < n) : f_nat_Sub fuel (txt m) (txt n) = some (⟨#[]⟩, 4) := by
  unfold f_nat_Sub
  rw [both_ok hm hn, Option.bind_some, if_neg (by simp), cmp_ok (ok_sz hm) (ok_sz hn), Option.bind_some, if_pos h, if_pos (by decide)]
theorem nat_compare {m n : Nat} (hm : Ok m) (hn : Ok n) : f_nat_Compare fuel (txt m) (txt n) = some (if m < n then -1 else if n < m then 1 else 0, 0) := by
  unfold f_nat_Compare
  rw [both_ok hm hn, Option.bind_some, if_neg (by simp), cmp_ok (ok_sz hm) (ok_sz hn), Option.bind_some]
theorem nat_divide {m n : Nat} (hm : Ok m) (hn : Ok n) (h : 0 < n) : f_nat_Divide fuel (txt m) (txt n) = some (txt (m / n), txt (m % n), 0) := by
  have h1 : Ok (m / n) := ok_le (Nat.div_le_self _ _) hm
  have h2 : Ok (m % n) := ok_le (Nat.mod_le _ _) hm
  have := cn_len_pos (show n ≠ 0 by omega)
  unfold f_nat_Divide
  rw [both_ok hm hn, Option.bind_some, if_neg (by simp), if_neg (fun e => by have := beq_iff_eq.1 e; rw [length_zs] at this; omega), div_ok (ok_sz hm) (ok_sz hn) h, Option.bind_some, text_ok _ (sz8 (ok_sz h1)), Option.bind_some, text_ok _ (sz8 (ok_sz h2)), Option.bind_some]
theorem nat_divide_no {m : Nat} (hm : Ok m) (h0 : Ok 0) : f_nat_Divide fuel (txt m) (txt 0) = some (⟨#[]⟩, ⟨#[]⟩, 18) := by
  unfold f_nat_Divide
  rw [both_ok hm h0, Option.bind_some, if_neg (by simp), if_pos (by simp only [cn_zero]; rfl)]
theorem nat_gcd {m n : Nat} (hm : Ok m) (hn : Ok n) (h : Ok (Nat.gcd m n)) : f_nat_Gcd fuel (txt m) (txt n) = some (txt (Nat.gcd m n), 0) := by
  unfold f_nat_Gcd
  rw [both_ok hm hn, Option.bind_some, if_neg (by simp), gcd_ok (ok_sz hm) (ok_sz hn), Option.bind_some, told_ok (sz8 (ok_sz h)) h, Option.bind_some]

theorem fact_true : f_gamehallkeep2_natFact fuel = some true := by kernel_rfl
theorem ok_of {n : Nat} (h : (dig n).length ≤ 2000) : Ok n := h
theorem toList_nil : ((⟨#[]⟩ : ByteArray).toList == (⟨#[]⟩ : ByteArray).toList) = true := by simp

theorem ring_true (a b c : ByteArray) : f_gamehallkeep2_NatRing fuel a b c = some true := by
  unfold f_gamehallkeep2_NatRing
  rw [fact_true, Option.bind_some, if_neg (by decide)]
  by_cases ha : a.size ≤ 300
  · by_cases hb : b.size ≤ 300
    · by_cases hc : c.size ≤ 300
      · rw [if_pos (by simp only [decide_eq_false_iff_not]; omega), if_pos (by simp only [decide_eq_false_iff_not]; omega), if_pos (by simp only [decide_eq_false_iff_not]; omega)]
        rcases check_spec a (by omega) with ⟨e, h0, h, _⟩ | ⟨l, rfl, hl, h⟩
        · rw [h, Option.bind_some, if_neg (by simpa using h0)]
        rw [h, Option.bind_some, if_pos (by decide)]
        rcases check_spec b (by omega) with ⟨e, h0, h, _⟩ | ⟨m, rfl, hm, h⟩
        · rw [h, Option.bind_some, if_neg (by simpa using h0)]
        rw [h, Option.bind_some, if_pos (by decide)]
        rcases check_spec c (by omega) with ⟨e, h0, h, _⟩ | ⟨n, rfl, hn, h⟩
        · rw [h, Option.bind_some, if_pos (ne0 h0)]
        rw [h, Option.bind_some, if_neg (by decide)]
        rw [txt_size] at ha hb hc
        have hs := dig_add hb hc
        have k1 := dig_mul l (m + n)
        have k2 := dig_mul l m
        have k3 := dig_mul l n
        have o1 : Ok (m + n) := ok_of (by omega)
        have o2 : Ok (l * (m + n)) := ok_of (by omega)
        have o3 : Ok (l * m) := ok_of (by omega)
        have o4 : Ok (l * n) := ok_of (by omega)
        have e : l * m + l * n = l * (m + n) := (Nat.mul_add _ _ _).symm
        rw [nat_add hm hn o1, Option.bind_some, nat_mul hl o1 o2, Option.bind_some, nat_mul hl hm o3, Option.bind_some, nat_mul hl hn o4, Option.bind_some, nat_add o3 o4 (e ▸ o2), Option.bind_some, nat_sub o1 hn (by omega), Option.bind_some]
        have hf : f_gamehallkeep2_fine fuel [0, 0, 0, 0, 0, 0] = some true := by kernel_rfl
        simp only [hf, Option.bind_some, if_true, txt_eq, e, decide_true, Nat.add_sub_cancel]
      · rw [if_pos (by simp only [decide_eq_false_iff_not]; omega), if_pos (by simp only [decide_eq_false_iff_not]; omega), if_neg (by simp only [decide_eq_false_iff_not]; omega)]
    · rw [if_pos (by simp only [decide_eq_false_iff_not]; omega), if_neg (by simp only [decide_eq_false_iff_not]; omega)]
  · rw [if_neg (by simp only [decide_eq_false_iff_not]; omega)]

theorem txt_zero : (⟨#[48]⟩ : ByteArray) = txt 0 := by
  have : dt 0 = [48] := by simp [dt, dig]
  unfold txt
  rw [this]
  rfl

theorem orders_true (a b : ByteArray) (ha : a.size ≤ 4611686018427387904) (hb : b.size ≤ 4611686018427387904) : f_gamehallkeep2_NatOrders fuel a b = some true := by
  unfold f_gamehallkeep2_NatOrders
  rw [fact_true, Option.bind_some, if_neg (by decide)]
  rcases both_spec a b ha hb with ⟨e, h0, h⟩ | ⟨m, n, rfl, rfl, hm, hn⟩
  · have : f_nat_Compare fuel a b = some (0, e) := by
      unfold f_nat_Compare
      rw [h, Option.bind_some, if_pos (ne0 h0)]
    rw [this, Option.bind_some, if_pos (ne0 h0)]
    rfl
  · rw [nat_compare hm hn, Option.bind_some, if_neg (by simp), nat_compare hn hm, Option.bind_some, txt_zero]
    rcases Nat.lt_trichotomy m n with h | h | h
    · rw [nat_sub_no hm hn h, Option.bind_some]
      simp only [if_pos h, if_neg (show ¬ n < m by omega), txt_eq, show decide (m = n) = false by simp; omega]
      rfl
    · subst h
      rw [nat_sub hm hm (Nat.le_refl _), Option.bind_some]
      simp only [if_neg (Nat.lt_irrefl m), txt_eq, decide_true, Nat.sub_self]
      rfl
    · rw [nat_sub hm hn (by omega), Option.bind_some]
      simp only [if_pos h, if_neg (show ¬ m < n by omega), txt_eq, show decide (m = n) = false by simp; omega, show decide (m - n = 0) = false by simp; omega]
      rfl

theorem euclid_true (a b : ByteArray) (ha : a.size ≤ 4611686018427387904) (hb : b.size ≤ 4611686018427387904) : f_gamehallkeep2_NatEuclid fuel a b = some true := by
  unfold f_gamehallkeep2_NatEuclid
  rw [fact_true, Option.bind_some, if_neg (by decide)]
  rcases both_spec a b ha hb with ⟨e, h0, h⟩ | ⟨m, n, rfl, rfl, hm, hn⟩
  · have : f_nat_Divide fuel a b = some (⟨#[]⟩, ⟨#[]⟩, e) := by
      unfold f_nat_Divide
      rw [h, Option.bind_some, if_pos (ne0 h0)]
    rw [this, Option.bind_some, if_pos (ne0 h0), if_pos toList_nil]
    rw [toList_nil]
  · by_cases h0 : n = 0
    · subst h0
      rw [nat_divide_no hm hn, Option.bind_some, if_pos (by decide), if_pos toList_nil]
      rw [toList_nil]
    · have hq : Ok (m / n) := ok_le (Nat.div_le_self _ _) hm
      have hr : Ok (m % n) := ok_le (Nat.mod_le _ _) hm
      have hp : Ok (m / n * n) := ok_le (Nat.div_mul_le_self _ _) hm
      have e : m / n * n + m % n = m := by rw [Nat.mul_comm]; exact Nat.div_add_mod m n
      have hlt := Nat.mod_lt m (show n > 0 by omega)
      rw [nat_divide hm hn (by omega), Option.bind_some, if_neg (by simp), nat_mul hq hn hp, Option.bind_some, nat_add hp hr (e.symm ▸ hm), Option.bind_some, nat_compare hr hn, Option.bind_some]
      have hf : f_gamehallkeep2_fine fuel [0, 0, 0] = some true := by kernel_rfl
      simp only [hf, Option.bind_some, e, if_pos hlt, txt_eq, decide_true]
      rw [if_pos (by decide), if_pos (by decide), if_pos (by decide)]
      by_cases hs : (txt m).size > 200
      · rw [if_pos (by simp only [decide_eq_true_eq]; omega), if_pos trivial, if_pos trivial]
        rfl
      · have hg : Ok (Nat.gcd m n) := ok_le (Nat.le_of_dvd (by omega) (Nat.gcd_dvd_right m n)) hn
        have hgp : 0 < Nat.gcd m n := Nat.gcd_pos_of_pos_right _ (by omega)
        have m1 : m % Nat.gcd m n = 0 := Nat.mod_eq_zero_of_dvd (Nat.gcd_dvd_left m n)
        have m2 : n % Nat.gcd m n = 0 := Nat.mod_eq_zero_of_dvd (Nat.gcd_dvd_right m n)
        rw [if_neg (by simp only [decide_eq_true_eq]; omega), nat_gcd hm hn hg, Option.bind_some, nat_divide hm hg hgp, Option.bind_some, nat_divide hn hg hgp, Option.bind_some]
        simp only [hf, Option.bind_some, if_true, txt_zero, txt_eq, m1, m2, decide_true]
end Go.Proofs.YtkdikllfbklhcaaDoor
