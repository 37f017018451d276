/- What the division of digits computes: subtraction in place, and the loop over the digits. -/
import Derived.Test.YtcdcoeofhnfjdaaDoorNc
namespace Go.Proofs.YtcdcoeofhnfjdaaDoor
open Go Vm
theorem take_same {a b : List Nat} {k : Nat} (hl : a.length = b.length) (h : ∀ j, j < k → a.getD j 0 = b.getD j 0) : a.take k = b.take k := by
 apply List.ext_getElem
 ·simp [hl]
 ·intro i h1 h2
  simp only [List.length_take] at h1 h2
  rw [List.getElem_take, List.getElem_take, ← z36 a i 0 (by omega), ← z36 b i 0 (by omega)]
  exact h i (by omega)
theorem yl5 {a b : List Nat} {k : Nat} (hl : a.length = b.length) (h : ∀ j, k ≤ j → a.getD j 0 = b.getD j 0) : a.drop k = b.drop k := by
 apply List.ext_getElem
 ·simp [hl]
 ·intro i h1 h2
  simp only [List.length_drop] at h1 h2
  rw [List.getElem_drop, List.getElem_drop, ← z36 a (k + i) 0 (by omega), ← z36 b (k + i) 0 (by omega)]
  exact h (k + i) (by omega)
theorem yc2 (v : List Nat) (hv : Dg v) (q : Nat) (hq : q < 1000000000) (k : Nat) (hs : k + v.length < 8388608) : ∀ (m i d c : Nat) (u : List Nat), i ≤ v.length + 1 → v.length + 1 < m + i → k + v.length < u.length → Dg u → d ≤ 1 → c < 1000000000 → (i = v.length + 1 → c = 0) →
  ∃ d' u', z12 m (k : Int) (q : Int) (d : Int) (c : Int) (i : Int) (zs u) (zs v) = some (.exit (((d' : Nat) : Int), zs u', zs v, ())) ∧ d' ≤ 1 ∧ Dg u' ∧ u'.length = u.length ∧ (∀ j, j < k + i → u'.getD j 0 = u.getD j 0) ∧ (∀ j, k + v.length < j → u'.getD j 0 = u.getD j 0) ∧
   vl u' + 1000000000 ^ (k + i) * (q * vl (v.drop i) + c + d) = vl u + 1000000000 ^ (k + v.length + 1) * d'
 | 0, i, d, c, u, h1, h2, h3, h4, h5, h6, h7 => by omega
 | m + 1, i, d, c, u, h1, h2, h3, h4, h5, h6, h7 => by
  simp only [z12]
  by_cases hi : i ≤ v.length
  ·have du := z4q h4 (k + i)
   have e0 : (0 : Int) ≤ (i : Int) := by omega
   have e1 : (i : Int) ≤ (v.length : Int) := by omega
   have e6 : IntKind.i64.wrap ((k : Int) + (i : Int)) = ((k + i : Nat) : Int) := by rw [w64 _ (by omega) (by omega)]; omega
   have e5 : ((k + i : Nat) : Int) < (u.length : Int) := by omega
   have e7 : (0 : Int) ≤ ((k + i : Nat) : Int) := by omega
   have e4 : IntKind.i64.wrap ((i : Int) + 1) = ((i + 1 : Nat) : Int) := by rw [w64 _ (by omega) (by omega)]; omega
   simp only [z1f, Int.toNat_natCast, z65, e0, e1, e6, e5, e7, if_true, decide_true, e4]
   have step : ∀ (t c1 r d1 x : Nat), c1 < 1000000000 → r < 1000000000 → 1000000000 * c1 + r = t → d1 ≤ 1 → x < 1000000000 → x + r + d = u.getD (k + i) 0 + 1000000000 * d1 → (i = v.length → c1 = 0) → q * vl (v.drop i) + c = t + 1000000000 * (q * vl (v.drop (i + 1))) →
     ∃ d' u', z12 m (k : Int) (q : Int) (d1 : Int) (c1 : Int) ((i + 1 : Nat) : Int) (zs (u.set (k + i) x)) (zs v) = some (.exit (((d' : Nat) : Int), zs u', zs v, ())) ∧ d' ≤ 1 ∧ Dg u' ∧ u'.length = u.length ∧ (∀ j, j < k + i → u'.getD j 0 = u.getD j 0) ∧ (∀ j, k + v.length < j → u'.getD j 0 = u.getD j 0) ∧
      vl u' + 1000000000 ^ (k + i) * (q * vl (v.drop i) + c + d) = vl u + 1000000000 ^ (k + v.length + 1) * d' := by
    intro t c1 r d1 x hc1 hr ht hd1 hx he hz hq'
    obtain ⟨d', u', e, k1, k2, k3, k4, k5, k6⟩ := yc2 v hv q hq k hs m (i + 1) d1 c1 (u.set (k + i) x) (by omega) (by omega) (by rw [List.length_set]; exact h3) (y8g h4 hx) hd1 hc1 (fun h => hz (by omega))
    refine ⟨d', u', e, k1, k2, by rw [k3, List.length_set], fun j hj => by rw [k4 j (by omega), z4x _ _ _ _ _ (by omega)], fun j hj => by rw [k5 j hj, z4x _ _ _ _ _ (by omega)], ?_⟩
    have hs := y72 u (k + i) x (by omega)
    rw [← Nat.add_assoc k i 1, z55] at k6
    rw [hq']
    grind
   by_cases hib : i < v.length
   ·have dv := z4q hv i
    have hp := y4k hq dv
    have e2 : (i : Int) < (v.length : Int) := by omega
    have hV : q * vl (v.drop i) + c = (c + q * v.getD i 0) + 1000000000 * (q * vl (v.drop (i + 1))) := by rw [z69 v i hib]; grind
    simp (disch := omega) only [e2, if_true, decide_true, ← Int.natCast_mul, ← Int.natCast_add, u64n, yp9, yq1, w64]
    have hdm := Nat.div_add_mod (c + q * v.getD i 0) 1000000000
    generalize hr : (c + q * v.getD i 0) % 1000000000 = r at *
    generalize hc1 : (c + q * v.getD i 0) / 1000000000 = c1 at *
    have hr' : r < 1000000000 := by omega
    have hc1' : c1 < 1000000000 := by omega
    by_cases hn : u.getD (k + i) 0 < r + d
    ·rw [if_pos (by simp only [decide_eq_true_eq]; omega), show ((u.getD (k + i) 0 : Nat) : Int) - (r : Int) - (d : Int) + 1000000000 = ((u.getD (k + i) 0 + 1000000000 - r - d : Nat) : Int) by omega, u32n (by omega), zg7]
     exact step _ c1 r 1 _ hc1' hr' hdm (by omega) (by omega) (by omega) (by omega) hV
    ·rw [if_neg (by simp only [decide_eq_true_eq]; omega), show ((u.getD (k + i) 0 : Nat) : Int) - (r : Int) - (d : Int) = ((u.getD (k + i) 0 - r - d : Nat) : Int) by omega, u32n (by omega), zg7]
     exact step _ c1 r 0 _ hc1' hr' hdm (by omega) (by omega) (by omega) (by omega) hV
   ·have e2 : ¬ (i : Int) < (v.length : Int) := by omega
    have hV : q * vl (v.drop i) + c = c + 1000000000 * (q * vl (v.drop (i + 1))) := by
     rw [List.drop_of_length_le (show v.length ≤ i by omega), List.drop_of_length_le (show v.length ≤ i + 1 by omega)]; simp [vl]
    simp (disch := omega) only [e2, decide_false, Bool.false_eq_true, if_false, u64n, yp9, yq1, w64]
    rw [Nat.mod_eq_of_lt h6, Nat.div_eq_of_lt h6]
    by_cases hn : u.getD (k + i) 0 < c + d
    ·rw [if_pos (by simp only [decide_eq_true_eq]; omega), show ((u.getD (k + i) 0 : Nat) : Int) - (c : Int) - (d : Int) + 1000000000 = ((u.getD (k + i) 0 + 1000000000 - c - d : Nat) : Int) by omega, u32n (by omega), zg7]
     exact step _ 0 c 1 _ (by omega) h6 (by omega) (by omega) (by omega) (by omega) (by omega) hV
    ·rw [if_neg (by simp only [decide_eq_true_eq]; omega), show ((u.getD (k + i) 0 : Nat) : Int) - (c : Int) - (d : Int) = ((u.getD (k + i) 0 - c - d : Nat) : Int) by omega, u32n (by omega), zg7]
     exact step _ 0 c 0 _ (by omega) h6 (by omega) (by omega) (by omega) (by omega) (by omega) hV
  ·have e1 : ¬ (i : Int) ≤ (v.length : Int) := by omega
   simp only [z1f, e1, decide_false, Bool.false_eq_true, if_false]
   obtain rfl : i = v.length + 1 := by omega
   refine ⟨d, u, rfl, h5, h4, rfl, fun _ _ => rfl, fun _ _ => rfl, ?_⟩
   rw [List.drop_of_length_le (by omega), h7 rfl]
   simp [vl, Nat.add_assoc]
theorem yn9 (v : List Nat) (hv : Dg v) (k : Nat) (hs : k + v.length < 8388608) : ∀ (m i c : Nat) (u : List Nat), i ≤ v.length + 1 → v.length + 1 < m + i → k + v.length < u.length → Dg u → c ≤ 1 →
  ∃ c' u', z1q m (k : Int) (c : Int) (i : Int) (zs u) (zs v) = some (.exit (zs u', zs v, ())) ∧ c' ≤ 1 ∧ Dg u' ∧ u'.length = u.length ∧ (∀ j, j < k + i → u'.getD j 0 = u.getD j 0) ∧ (∀ j, k + v.length < j → u'.getD j 0 = u.getD j 0) ∧
   vl u' + 1000000000 ^ (k + v.length + 1) * c' = vl u + 1000000000 ^ (k + i) * (vl (v.drop i) + c)
 | 0, i, c, u, h1, h2, h3, h4, h5 => by omega
 | m + 1, i, c, u, h1, h2, h3, h4, h5 => by
  simp only [z1q]
  by_cases hi : i ≤ v.length
  ·have du := z4q h4 (k + i)
   have dv := z4q hv i
   have e0 : (0 : Int) ≤ (i : Int) := by omega
   have e1 : (i : Int) ≤ (v.length : Int) := by omega
   have e6 : IntKind.i64.wrap ((k : Int) + (i : Int)) = ((k + i : Nat) : Int) := by rw [w64 _ (by omega) (by omega)]; omega
   have e5 : ((k + i : Nat) : Int) < (u.length : Int) := by omega
   have e7 : (0 : Int) ≤ ((k + i : Nat) : Int) := by omega
   have e4 : IntKind.i64.wrap ((i : Int) + 1) = ((i + 1 : Nat) : Int) := by rw [w64 _ (by omega) (by omega)]; omega
   simp only [z1f, Int.toNat_natCast, z65, e0, e1, e6, e5, e7, if_true, decide_true, e4]
   have step : ∀ (t : Nat), t < 2000000000 → vl (v.drop i) + c + u.getD (k + i) 0 = t + 1000000000 * vl (v.drop (i + 1)) →
     ∃ c' u', z1q m (k : Int) ((t / 1000000000 : Nat) : Int) ((i + 1 : Nat) : Int) (zs (u.set (k + i) (t % 1000000000))) (zs v) = some (.exit (zs u', zs v, ())) ∧ c' ≤ 1 ∧ Dg u' ∧ u'.length = u.length ∧ (∀ j, j < k + i → u'.getD j 0 = u.getD j 0) ∧ (∀ j, k + v.length < j → u'.getD j 0 = u.getD j 0) ∧
      vl u' + 1000000000 ^ (k + v.length + 1) * c' = vl u + 1000000000 ^ (k + i) * (vl (v.drop i) + c) := by
    intro t ht he
    obtain ⟨c', u', e, k1, k2, k3, k4, k5, k6⟩ := yn9 v hv k hs m (i + 1) (t / 1000000000) (u.set (k + i) (t % 1000000000)) (by omega) (by omega) (by rw [List.length_set]; exact h3) (y8g h4 (Nat.mod_lt _ (by decide))) (by omega)
    refine ⟨c', u', e, k1, k2, by rw [k3, List.length_set], fun j hj => by rw [k4 j (by omega), z4x _ _ _ _ _ (by omega)], fun j hj => by rw [k5 j hj, z4x _ _ _ _ _ (by omega)], ?_⟩
    have hs := y72 u (k + i) (t % 1000000000) (by omega)
    have hdm := Nat.div_add_mod t 1000000000
    rw [← Nat.add_assoc k i 1, z55] at k6
    generalize t % 1000000000 = r at *
    generalize t / 1000000000 = q at *
    grind
   by_cases hib : i < v.length
   ·have e2 : (i : Int) < (v.length : Int) := by omega
    simp (disch := omega) only [e2, if_true, decide_true, ← Int.natCast_add, u32n, yp9, yq1, zg7]
    exact step (u.getD (k + i) 0 + c + v.getD i 0) (by omega) (by rw [z69 v i hib]; omega)
   ·have e2 : ¬ (i : Int) < (v.length : Int) := by omega
    simp (disch := omega) only [e2, decide_false, Bool.false_eq_true, if_false, ← Int.natCast_add, u32n, yp9, yq1, zg7]
    exact step (u.getD (k + i) 0 + c) (by omega) (by rw [List.drop_of_length_le (show v.length ≤ i by omega), List.drop_of_length_le (show v.length ≤ i + 1 by omega)]; simp only [vl]; omega)
  ·have e1 : ¬ (i : Int) ≤ (v.length : Int) := by omega
   simp only [z1f, e1, decide_false, Bool.false_eq_true, if_false]
   obtain rfl : i = v.length + 1 := by omega
   refine ⟨c, u, rfl, h5, h4, rfl, fun _ _ => rfl, fun _ _ => rfl, ?_⟩
   rw [List.drop_of_length_le (by omega)]
   simp [vl, Nat.add_assoc]
end Go.Proofs.YtcdcoeofhnfjdaaDoor
