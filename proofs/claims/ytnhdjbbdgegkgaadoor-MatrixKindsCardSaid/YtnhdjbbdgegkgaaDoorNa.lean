/- What the functions on digits compute: comparison, sum, difference. -/
import Derived.Test.YtnhdjbbdgegkgaaDoorPf
import Derived.Test.YtnhdjbbdgegkgaaDoorVmD
namespace Go.Proofs.YtnhdjbbdgegkgaaDoor
open Go Vm
theorem fuel40 : 1099511627776 ≤ fuel := fuel_ge (by decide)
theorem cmp_loop (a b : List Nat) (ha : Dg a) (hb : Dg b) (he : a.length = b.length) (hs : a.length ≤ 4194304) : ∀ (m i : Nat), i ≤ a.length → i < m → vl (a.drop i) = vl (b.drop i) →
  l_nat_N_Cmp_6 m (zs a) (zs b) ((i : Int) - 1) = (if vl a < vl b then some (.ret (-1, ())) else if vl b < vl a then some (.ret (1, ())) else some (.exit ()))
 | 0, i, h1, h2, h3 => by omega
 | m + 1, 0, h1, h2, h3 => by
  simp only [l_nat_N_Cmp_6]
  rw [if_neg (by simp)]
  have : vl a = vl b := h3
  rw [if_neg (by omega), if_neg (by omega)]
 | m + 1, i + 1, h1, h2, h3 => by
  simp only [l_nat_N_Cmp_6]
  have hi : ((i + 1 : Nat) : Int) - 1 = (i : Int) := by omega
  have e0 : (0 : Int) ≤ (i : Int) := by omega
  have e1 : (i : Int) < (a.length : Int) := by omega
  have e2 : (i : Int) < (b.length : Int) := by omega
  simp only [hi, length_zs, Int.toNat_natCast, getD_zs, e0, e1, e2, if_true, decide_true]
  by_cases hl : a.getD i 0 < b.getD i 0
  ·have := vl_cmp ha hb (i := i) (by omega) (by omega) h3 hl
   rw [if_pos (by simpa using hl), if_pos this]
  ·rw [if_neg (by simpa using hl)]
   by_cases hg : b.getD i 0 < a.getD i 0
   ·have := vl_cmp hb ha (i := i) (by omega) (by omega) h3.symm hg
    rw [if_pos (by simpa using hg), if_neg (by omega), if_pos this]
   ·rw [if_neg (by simpa using hg), w64 _ (by omega) (by omega)]
    refine cmp_loop a b ha hb he hs m i (by omega) (by omega) ?_
    rw [vl_drop a i (by omega), vl_drop b i (by omega), h3]
    omega
def Sz (a : Nat) : Prop := (cn a).length ≤ 4194304
theorem cmp_ok {a b : Nat} (ha : Sz a) (_ : Sz b) : f_nat_N_Cmp fuel (zs (cn a)) (zs (cn b)) = some (if a < b then -1 else if b < a then 1 else 0) := by
 unfold f_nat_N_Cmp Sz at *
 have hf := fuel40
 simp only [length_zs]
 by_cases hn : (cn a).length = (cn b).length
 ·have h := cmp_loop (cn a) (cn b) (dg_cn a) (dg_cn b) hn ha fuel (cn a).length (by omega) (by omega) (by rw [List.drop_of_length_le (by omega), List.drop_of_length_le (by omega)])
  simp only [vl_cn] at h
  rw [if_neg (by simp; omega), w64 _ (by omega) (by omega), h]
  by_cases h1 : a < b
  ·simp only [if_pos h1]
  ·by_cases h2 : b < a
   ·simp only [if_neg h1, if_pos h2]
   ·simp only [if_neg h1, if_neg h2]
 ·rw [if_pos (by simp; omega)]
  by_cases hl : (cn a).length < (cn b).length
  ·rw [if_pos (by simpa using hl), if_pos (len_lt hl)]
  ·have := len_lt (a := b) (b := a) (by omega)
   rw [if_neg (by simpa using hl), if_neg (by omega), if_pos this]
theorem add_loop (b l : List Nat) (hb : Dg b) (hl : Dg l) (hs : l.length ≤ 4194304) : ∀ (m i c : Nat) (out : List Nat), i ≤ l.length → l.length < m + i → out.length = i → Dg out → c ≤ 1 →
  ∃ c' out', l_nat_N_Add_6 m (zs b) (c : Int) (zs l) (l.length : Int) (i : Int) (zs out) = some (.exit (((c' : Nat) : Int), zs out', ())) ∧ c' ≤ 1 ∧ Dg out' ∧ out'.length = l.length ∧
   vl out' + 1000000000 ^ l.length * c' = vl out + 1000000000 ^ i * (vl (l.drop i) + vl ((b.take l.length).drop i) + c)
 | 0, i, c, out, h1, h2, h3, h4, h5 => by omega
 | m + 1, i, c, out, h1, h2, h3, h4, h5 => by
  simp only [l_nat_N_Add_6]
  by_cases hi : i < l.length
  ·have dl := dg_getD hl i
   have db := dg_getD hb i
   have e0 : (0 : Int) ≤ (i : Int) := by omega
   have e1 : (i : Int) < (l.length : Int) := by omega
   have e3 : (out.length + 1) * 4 ≤ 140737488355328 := by omega
   simp only [length_zs, Int.toNat_natCast, getD_zs, e0, e1, e3, if_true, decide_true]
   have e4 : IntKind.i64.wrap ((i : Int) + 1) = ((i + 1 : Nat) : Int) := by rw [w64 _ (by omega) (by omega)]; omega
   rw [e4]
   by_cases hib : i < b.length
   ·have e2 : (i : Int) < (b.length : Int) := by omega
    simp (disch := omega) only [e2, if_true, decide_true, ← Int.natCast_add, u32n, tdivB, tmodB, zs_snoc]
    obtain ⟨c', out', e, k1, k2, k3, k4⟩ := add_loop b l hb hl hs m (i + 1) ((l.getD i 0 + c + b.getD i 0) / 1000000000) (out ++ [(l.getD i 0 + c + b.getD i 0) % 1000000000]) (by omega) (by omega) (by simp; omega)
     (dg_append.2 ⟨h4, dg_cons.2 ⟨Nat.mod_lt _ (by decide), dg_nil⟩⟩) (by omega)
    refine ⟨c', out', e, k1, k2, k3, ?_⟩
    rw [k4, vl_append, h3, vl_drop l i hi, vl_drop (b.take l.length) i (by rw [List.length_take]; omega), getD_take _ _ _ hi, pow_succ9]
    have := Nat.div_add_mod (l.getD i 0 + c + b.getD i 0) 1000000000
    simp only [vl]
    grind
   ·have e2 : ¬ (i : Int) < (b.length : Int) := by omega
    simp (disch := omega) only [e2, decide_false, Bool.false_eq_true, if_false, ← Int.natCast_add, u32n, tdivB, tmodB, zs_snoc]
    obtain ⟨c', out', e, k1, k2, k3, k4⟩ := add_loop b l hb hl hs m (i + 1) ((l.getD i 0 + c) / 1000000000) (out ++ [(l.getD i 0 + c) % 1000000000]) (by omega) (by omega) (by simp; omega)
     (dg_append.2 ⟨h4, dg_cons.2 ⟨Nat.mod_lt _ (by decide), dg_nil⟩⟩) (by omega)
    refine ⟨c', out', e, k1, k2, k3, ?_⟩
    rw [k4, vl_append, h3, vl_drop l i hi, List.drop_of_length_le (show (b.take l.length).length ≤ i by rw [List.length_take]; omega), List.drop_of_length_le (show (b.take l.length).length ≤ i + 1 by rw [List.length_take]; omega), pow_succ9]
    have := Nat.div_add_mod (l.getD i 0 + c) 1000000000
    simp only [vl]
    grind
  ·have e1 : ¬ (i : Int) < (l.length : Int) := by omega
   simp only [e1, decide_false, Bool.false_eq_true, if_false]
   refine ⟨c, out, rfl, h5, h4, by omega, ?_⟩
   rw [List.drop_of_length_le (by omega), List.drop_of_length_le (show (b.take l.length).length ≤ i by rw [List.length_take]; omega), show i = l.length by omega]
   simp [vl]
theorem add_half {a b : Nat} (ha : Sz a) (hl : (cn b).length ≤ (cn a).length) :
  ∃ c' out', l_nat_N_Add_6 fuel (zs (cn b)) 0 (zs (cn a)) ((cn a).length : Int) 0 (List.replicate 0 0) = some (.exit (((c' : Nat) : Int), zs out', ())) ∧ out'.length = (cn a).length ∧
   (if 0 < c' then out' ++ [c'] else out') = cn (a + b) := by
 have hf := fuel40
 unfold Sz at ha
 obtain ⟨c', out', e, k1, k2, k3, k4⟩ := add_loop (cn b) (cn a) (dg_cn b) (dg_cn a) ha fuel 0 0 [] (by omega) (by omega) rfl dg_nil (by omega)
 refine ⟨c', out', e, k3, ?_⟩
 simp only [vl, List.drop_zero, Nat.pow_zero, List.take_of_length_le hl, vl_cn, Nat.add_zero, Nat.zero_add, Nat.one_mul] at k4
 split
 ·rename_i h
  have : vl (out' ++ [c']) = a + b := by rw [vl_append, k3, ← k4]; simp [vl]
  rw [← this, cn_snoc]
  ·exact dg_append.2 ⟨k2, dg_cons.2 ⟨by omega, dg_nil⟩⟩
  ·omega
 ·rename_i h
  obtain rfl : c' = 0 := by omega
  rw [Nat.mul_zero, Nat.add_zero] at k4
  rw [← k4, cn_of_len k2]
  rw [k4, k3]
  exact cn_mono (by omega)
theorem add_ok {a b : Nat} (ha : Sz a) (hb : Sz b) : f_nat_N_Add fuel (zs (cn a)) (zs (cn b)) = some (zs (cn (a + b))) := by
 unfold f_nat_N_Add
 have ha' := ha; have hb' := hb
 unfold Sz at ha' hb'
 have hf := fuel40
 simp only [length_zs]
 by_cases hl : (cn a).length < (cn b).length
 ·obtain ⟨c', out', e, k1, k2⟩ := add_half (a := b) (b := a) hb (by omega)
  rw [if_pos (by simpa using hl), w64 _ (by omega) (by omega), if_pos (by omega), if_pos (by omega), e]
  simp only [length_zs]
  rw [Nat.add_comm a b, ← k2]
  by_cases hc : 0 < c'
  ·rw [if_pos (by simpa using hc), if_pos (by omega), if_pos hc, zs_snoc]
  ·rw [if_neg (by simpa using hc), if_neg hc]
 ·obtain ⟨c', out', e, k1, k2⟩ := add_half (a := a) (b := b) ha (by omega)
  rw [if_neg (by simpa using hl), w64 _ (by omega) (by omega), if_pos (by omega), if_pos (by omega), e]
  simp only [length_zs]
  rw [← k2]
  by_cases hc : 0 < c'
  ·rw [if_pos (by simpa using hc), if_pos (by omega), if_pos hc, zs_snoc]
  ·rw [if_neg (by simpa using hc), if_neg hc]
theorem trimSub_loop : ∀ (m i : Nat) (l : List Nat), Dg l → i ≤ l.length → l.length ≤ 4194304 → i < m →
  ∃ j, l_nat_N_trim__nat_N_Sub_1 m i (zs l) = some (.exit (j, zs l, ())) ∧ l.take j = cn (vl (l.take i))
 | 0, i, l, h, h1, h2, h3 => by omega
 | m + 1, 0, l, h, h1, h2, h3 => by
  simp only [l_nat_N_trim__nat_N_Sub_1]
  exact ⟨0, by simp, by simp [vl, cn_zero]⟩
 | m + 1, i + 1, l, h, h1, h2, h3 => by
  simp only [l_nat_N_trim__nat_N_Sub_1]
  have e4 : IntKind.i64.wrap (((i + 1 : Nat) : Int) - 1) = (i : Int) := by rw [w64 _ (by omega) (by omega)]; omega
  have e0 : (0 : Int) ≤ (i : Int) := by omega
  have e1 : (i : Int) < ((i + 1 : Nat) : Int) := by omega
  have e2 : (i : Int) ≤ ((i + 1 : Nat) : Int) := by omega
  have e3 : ((i + 1 : Nat) : Int) > 0 := by omega
  simp only [e4, e0, e1, e2, e3, if_true, decide_true, Int.toNat_natCast, getD_zs]
  by_cases h0 : l.getD i 0 = 0
  ·rw [if_pos (by rw [h0]; rfl), trim_step (by omega) h0]
   exact trimSub_loop m i l h (by omega) h2 (by omega)
  ·rw [if_neg (fun e => h0 (by simpa using e))]
   exact ⟨i + 1, rfl, trim_stop h (by omega) h0⟩
theorem trimMul_loop : ∀ (m i : Nat) (l : List Nat), Dg l → i ≤ l.length → l.length ≤ 8388608 → i < m →
  ∃ j, l_nat_N_trim__nat_N_Mul_1 m i (zs l) = some (.exit (j, zs l, ())) ∧ l.take j = cn (vl (l.take i))
 | 0, i, l, h, h1, h2, h3 => by omega
 | m + 1, 0, l, h, h1, h2, h3 => by
  simp only [l_nat_N_trim__nat_N_Mul_1]
  exact ⟨0, by simp, by simp [vl, cn_zero]⟩
 | m + 1, i + 1, l, h, h1, h2, h3 => by
  simp only [l_nat_N_trim__nat_N_Mul_1]
  have e4 : IntKind.i64.wrap (((i + 1 : Nat) : Int) - 1) = (i : Int) := by rw [w64 _ (by omega) (by omega)]; omega
  have e0 : (0 : Int) ≤ (i : Int) := by omega
  have e1 : (i : Int) < ((i + 1 : Nat) : Int) := by omega
  have e2 : (i : Int) ≤ ((i + 1 : Nat) : Int) := by omega
  have e3 : ((i + 1 : Nat) : Int) > 0 := by omega
  simp only [e4, e0, e1, e2, e3, if_true, decide_true, Int.toNat_natCast, getD_zs]
  by_cases h0 : l.getD i 0 = 0
  ·rw [if_pos (by rw [h0]; rfl), trim_step (by omega) h0]
   exact trimMul_loop m i l h (by omega) h2 (by omega)
  ·rw [if_neg (fun e => h0 (by simpa using e))]
   exact ⟨i + 1, rfl, trim_stop h (by omega) h0⟩
theorem trimRead_loop : ∀ (m i : Nat) (l : List Nat), Dg l → i ≤ l.length → l.length ≤ 8388608 → i < m →
  ∃ j, l_nat_N_trim__nat_Read_1 m i (zs l) = some (.exit (j, zs l, ())) ∧ l.take j = cn (vl (l.take i))
 | 0, i, l, h, h1, h2, h3 => by omega
 | m + 1, 0, l, h, h1, h2, h3 => by
  simp only [l_nat_N_trim__nat_Read_1]
  exact ⟨0, by simp, by simp [vl, cn_zero]⟩
 | m + 1, i + 1, l, h, h1, h2, h3 => by
  simp only [l_nat_N_trim__nat_Read_1]
  have e4 : IntKind.i64.wrap (((i + 1 : Nat) : Int) - 1) = (i : Int) := by rw [w64 _ (by omega) (by omega)]; omega
  have e0 : (0 : Int) ≤ (i : Int) := by omega
  have e1 : (i : Int) < ((i + 1 : Nat) : Int) := by omega
  have e2 : (i : Int) ≤ ((i + 1 : Nat) : Int) := by omega
  have e3 : ((i + 1 : Nat) : Int) > 0 := by omega
  simp only [e4, e0, e1, e2, e3, if_true, decide_true, Int.toNat_natCast, getD_zs]
  by_cases h0 : l.getD i 0 = 0
  ·rw [if_pos (by rw [h0]; rfl), trim_step (by omega) h0]
   exact trimRead_loop m i l h (by omega) h2 (by omega)
  ·rw [if_neg (fun e => h0 (by simpa using e))]
   exact ⟨i + 1, rfl, trim_stop h (by omega) h0⟩
theorem trim_loop : ∀ (m i : Nat) (l : List Nat), Dg l → i ≤ l.length → l.length ≤ 8388608 → i < m →
  l_nat_N_trim_1 m (zs (l.take i)) = some (.exit (zs (cn (vl (l.take i))), ()))
 | 0, i, l, h, h1, h2, h3 => by omega
 | m + 1, 0, l, h, h1, h2, h3 => by
  simp only [l_nat_N_trim_1]
  simp [vl, cn_zero]
 | m + 1, i + 1, l, h, h1, h2, h3 => by
  simp only [l_nat_N_trim_1]
  have hl : (zs (l.take (i + 1))).length = i + 1 := by rw [length_zs, List.length_take]; omega
  have e4 : IntKind.i64.wrap (((i + 1 : Nat) : Int) - 1) = (i : Int) := by rw [w64 _ (by omega) (by omega)]; omega
  have e0 : (0 : Int) ≤ (i : Int) := by omega
  have e1 : (i : Int) < ((i + 1 : Nat) : Int) := by omega
  have e2 : (i : Int) ≤ ((i + 1 : Nat) : Int) := by omega
  have e3 : ((i + 1 : Nat) : Int) > 0 := by omega
  simp only [hl, e4, e0, e1, e2, e3, if_true, decide_true, Int.toNat_natCast, getD_zs]
  rw [getD_take _ _ _ (by omega)]
  by_cases h0 : l.getD i 0 = 0
  ·rw [if_pos (by rw [h0]; rfl), trim_step (by omega) h0, List.drop_zero, zs_take, List.take_take, Nat.min_eq_left (by omega)]
   exact trim_loop m i l h (by omega) h2 (by omega)
  ·rw [if_neg (fun e => h0 (by simpa using e)), ← trim_stop h (by omega) h0]
theorem trim_ok {l : List Nat} (h : Dg l) (hs : l.length ≤ 8388608) : f_nat_N_trim fuel (zs l) = some (zs (cn (vl l))) := by
 unfold f_nat_N_trim
 have hf := fuel40
 have := trim_loop fuel l.length l h (by omega) hs (by omega)
 rw [List.take_length] at this
 rw [this]
end Go.Proofs.YtnhdjbbdgegkgaaDoor
