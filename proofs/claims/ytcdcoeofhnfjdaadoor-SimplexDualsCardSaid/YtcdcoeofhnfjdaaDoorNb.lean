/- What the functions on digits compute: difference, product, division by one digit. -/
import Derived.Test.YtcdcoeofhnfjdaaDoorNa
namespace Go.Proofs.YtcdcoeofhnfjdaaDoor
open Go Vm
theorem w1a (a b : List Nat) (ha : Dg a) (hb : Dg b) (hs : a.length ≤ 4194304) : ∀ (m i d : Nat) (out : List Nat), i ≤ a.length → a.length < m + i → out.length = a.length → Dg out → d ≤ 1 → (∀ j, i ≤ j → out.getD j 0 = 0) →
  ∃ d' out', z48 m (zs a) (zs b) (d : Int) (a.length : Int) (i : Int) (zs out) = some (.exit (zs out', ())) ∧ d' ≤ 1 ∧ Dg out' ∧ out'.length = a.length ∧
   vl out' + 1000000000 ^ i * (vl ((b.take a.length).drop i) + d) = vl out + 1000000000 ^ i * vl (a.drop i) + 1000000000 ^ a.length * d'
 | 0, i, d, out, h1, h2, h3, h4, h5, h6 => by omega
 | m + 1, i, d, out, h1, h2, h3, h4, h5, h6 => by
  simp only [z48]
  by_cases hi : i < a.length
  ·have da := z4q ha i
   have db := z4q hb i
   have e0 : (0 : Int) ≤ (i : Int) := by omega
   have e1 : (i : Int) < (a.length : Int) := by omega
   have e5 : (i : Int) < (out.length : Int) := by omega
   have e4 : IntKind.i64.wrap ((i : Int) + 1) = ((i + 1 : Nat) : Int) := by rw [w64 _ (by omega) (by omega)]; omega
   simp only [z1f, Int.toNat_natCast, z65, e0, e1, e5, if_true, decide_true, e4]
   have step : ∀ (y d1 v : Nat), y = (b.take a.length).getD i 0 → d1 ≤ 1 → v < 1000000000 → v + d + y = a.getD i 0 + 1000000000 * d1 → vl ((b.take a.length).drop i) = y + 1000000000 * vl ((b.take a.length).drop (i + 1)) →
     ∃ d' out', z48 m (zs a) (zs b) (d1 : Int) (a.length : Int) ((i + 1 : Nat) : Int) (zs (out.set i v)) = some (.exit (zs out', ())) ∧ d' ≤ 1 ∧ Dg out' ∧ out'.length = a.length ∧
      vl out' + 1000000000 ^ i * (vl ((b.take a.length).drop i) + d) = vl out + 1000000000 ^ i * vl (a.drop i) + 1000000000 ^ a.length * d' := by
    intro y d1 v hy hd1 hv he hby
    obtain ⟨d', out', e, k1, k2, k3, k4⟩ := w1a a b ha hb hs m (i + 1) d1 (out.set i v) (by omega) (by omega) (by rw [List.length_set]; exact h3) (y8g h4 hv) hd1
     (fun j hj => by rw [z4x _ _ _ _ _ (by omega)]; exact h6 j (by omega))
    refine ⟨d', out', e, k1, k2, k3, ?_⟩
    have hs := y72 out i v (by omega)
    rw [h6 i (by omega)] at hs
    rw [hby, z69 a i hi]
    rw [z55] at k4
    grind
   by_cases hib : i < b.length
   ·have e2 : (i : Int) < (b.length : Int) := by omega
    have hby : vl ((b.take a.length).drop i) = b.getD i 0 + 1000000000 * vl ((b.take a.length).drop (i + 1)) := by
     rw [z69 (b.take a.length) i (by rw [List.length_take]; omega), getD_take _ _ _ hi]
    have hy : b.getD i 0 = (b.take a.length).getD i 0 := (getD_take _ _ _ hi).symm
    simp (disch := omega) only [e2, if_true, decide_true, w64]
    by_cases hn : a.getD i 0 < d + b.getD i 0
    ·rw [if_pos (by simp only [decide_eq_true_eq]; omega), show ((a.getD i 0 : Nat) : Int) - (d : Int) - ((b.getD i 0 : Nat) : Int) + 1000000000 = ((a.getD i 0 + 1000000000 - d - b.getD i 0 : Nat) : Int) by omega, u32n (by omega), zg7]
     exact step (b.getD i 0) 1 _ hy (by omega) (by omega) (by omega) hby
    ·rw [if_neg (by simp only [decide_eq_true_eq]; omega), show ((a.getD i 0 : Nat) : Int) - (d : Int) - ((b.getD i 0 : Nat) : Int) = ((a.getD i 0 - d - b.getD i 0 : Nat) : Int) by omega, u32n (by omega), zg7]
     exact step (b.getD i 0) 0 _ hy (by omega) (by omega) (by omega) hby
   ·have e2 : ¬ (i : Int) < (b.length : Int) := by omega
    have hz : (b.take a.length).drop i = [] := List.drop_of_length_le (by rw [List.length_take]; omega)
    have hz' : (b.take a.length).drop (i + 1) = [] := List.drop_of_length_le (by rw [List.length_take]; omega)
    have hy : 0 = (b.take a.length).getD i 0 := by rw [List.getD_eq_getElem?_getD, List.getElem?_eq_none (by rw [List.length_take]; omega)]; rfl
    simp (disch := omega) only [e2, decide_false, Bool.false_eq_true, if_false, w64]
    by_cases hn : a.getD i 0 < d
    ·rw [if_pos (by simp only [decide_eq_true_eq]; omega), show ((a.getD i 0 : Nat) : Int) - (d : Int) + 1000000000 = ((a.getD i 0 + 1000000000 - d : Nat) : Int) by omega, u32n (by omega), zg7]
     exact step 0 1 _ hy (by omega) (by omega) (by omega) (by rw [hz, hz']; rfl)
    ·rw [if_neg (by simp only [decide_eq_true_eq]; omega), show ((a.getD i 0 : Nat) : Int) - (d : Int) = ((a.getD i 0 - d : Nat) : Int) by omega, u32n (by omega), zg7]
     exact step 0 0 _ hy (by omega) (by omega) (by omega) (by rw [hz, hz']; rfl)
  ·have e1 : ¬ (i : Int) < (a.length : Int) := by omega
   simp only [e1, decide_false, Bool.false_eq_true, if_false]
   refine ⟨d, out, rfl, h5, h4, h3, ?_⟩
   rw [List.drop_of_length_le (show a.length ≤ i by omega), List.drop_of_length_le (show (b.take a.length).length ≤ i by rw [List.length_take]; omega), show i = a.length by omega]
   simp [vl]
theorem y7n (n j : Nat) : (List.replicate n 0).getD j 0 = 0 := by
 simp only [List.getD_eq_getElem?_getD, List.getElem?_replicate]; split <;> rfl
theorem w8r {a b : Nat} (ha : Sz a) (h : b ≤ a) : zj7 fuel (zs (cn a)) (zs (cn b)) = some (zs (cn (a - b))) := by
 unfold zj7
 unfold Sz at ha
 have hf := zr1
 have hl := y8d h
 obtain ⟨d', out', e, k1, k2, k3, k4⟩ := w1a (cn a) (cn b) (y07 a) (y07 b) ha fuel 0 0 (List.replicate (cn a).length 0) (by omega) (by omega) (by simp) (yz6 _) (by omega) (fun j _ => y7n _ j)
 have e : z48 fuel (zs (cn a)) (zs (cn b)) 0 ((cn a).length : Int) 0 (zs (List.replicate (cn a).length 0)) = _ := e
 simp only [z1f, Int.toNat_natCast]
 rw [if_pos (by omega), if_pos (by omega), if_pos (by omega), yq9, e]
 simp only [z1f]
 obtain ⟨j, e2, k5⟩ := y71 fuel out'.length out' k2 (by omega) (by omega) (by omega)
 rw [e2]
 simp only [List.drop_zero, Nat.pow_zero, Nat.one_mul, List.take_of_length_le hl, y4x, yq6, Nat.zero_add, Nat.add_zero] at k4
 have hlt := y9k k2
 rw [k3] at hlt
 have hd : d' = 0 := by
  rcases Nat.eq_zero_or_pos d' with h0 | h0
  ·exact h0
  ·obtain rfl : d' = 1 := by omega
   omega
 subst hd
 rw [List.take_length] at k5
 show some ((zs out').take j) = _
 rw [y9p, k5, show vl out' = a - b by omega]
theorem y4k {x y : Nat} (hx : x < 1000000000) (hy : y < 1000000000) : x * y ≤ 999999998000000001 := by
 have := Nat.mul_le_mul (show x ≤ 999999999 by omega) (show y ≤ 999999999 by omega)
 omega
theorem yc5 (b : List Nat) (hb : Dg b) (x i : Nat) (hx : x < 1000000000) (hs : b.length ≤ 4194304) (hi : i ≤ 4194304) : ∀ (m k c : Nat) (out : List Nat), k ≤ b.length → b.length < m + k → i + b.length < out.length → Dg out → c < 1000000000 →
  ∃ c' out', z7j m (i : Int) (x : Int) (c : Int) (zs b) (b.length : Int) (k : Int) (zs out) = some (.exit (((c' : Nat) : Int), zs out', ())) ∧ c' < 1000000000 ∧ Dg out' ∧ out'.length = out.length ∧
   (∀ j, i + b.length ≤ j → out'.getD j 0 = out.getD j 0) ∧ vl out' + 1000000000 ^ (i + b.length) * c' = vl out + 1000000000 ^ (i + k) * (x * vl (b.drop k) + c)
 | 0, k, c, out, h1, h2, h3, h4, h5 => by omega
 | m + 1, k, c, out, h1, h2, h3, h4, h5 => by
  simp only [z7j]
  by_cases hk : k < b.length
  ·have db := z4q hb k
   have dout := z4q h4 (i + k)
   have hp := y4k hx db
   have e0 : (0 : Int) ≤ (k : Int) := by omega
   have e1 : (k : Int) < (b.length : Int) := by omega
   have e6 : IntKind.i64.wrap ((i : Int) + (k : Int)) = ((i + k : Nat) : Int) := by rw [w64 _ (by omega) (by omega)]; omega
   have e5 : ((i + k : Nat) : Int) < (out.length : Int) := by omega
   have e7 : (0 : Int) ≤ ((i + k : Nat) : Int) := by omega
   have e4 : IntKind.i64.wrap ((k : Int) + 1) = ((k + 1 : Nat) : Int) := by rw [w64 _ (by omega) (by omega)]; omega
   simp only [z1f, Int.toNat_natCast, z65, e0, e1, e6, e5, e7, if_true, decide_true, e4]
   simp (disch := omega) only [← Int.natCast_mul, ← Int.natCast_add, u64n, u32n, yp9, yq1, zg7]
   obtain ⟨c', out', e, k1, k2, k3, k4, k5⟩ := yc5 b hb x i hx hs hi m (k + 1) ((x * b.getD k 0 + out.getD (i + k) 0 + c) / 1000000000) (out.set (i + k) ((x * b.getD k 0 + out.getD (i + k) 0 + c) % 1000000000)) (by omega) (by omega)
    (by rw [List.length_set]; exact h3) (y8g h4 (Nat.mod_lt _ (by decide))) (by omega)
   refine ⟨c', out', e, k1, k2, by rw [k3, List.length_set], fun j hj => by rw [k4 j hj, z4x _ _ _ _ _ (by omega)], ?_⟩
   have hs := y72 out (i + k) ((x * b.getD k 0 + out.getD (i + k) 0 + c) % 1000000000) (by omega)
   have := Nat.div_add_mod (x * b.getD k 0 + out.getD (i + k) 0 + c) 1000000000
   rw [z69 b k hk]
   rw [← Nat.add_assoc i k 1, z55] at k5
   generalize (x * b.getD k 0 + out.getD (i + k) 0 + c) % 1000000000 = r at *
   generalize (x * b.getD k 0 + out.getD (i + k) 0 + c) / 1000000000 = q at *
   grind
  ·have e1 : ¬ (k : Int) < (b.length : Int) := by omega
   simp only [e1, decide_false, Bool.false_eq_true, if_false]
   refine ⟨c, out, rfl, h5, h4, rfl, fun _ _ => rfl, ?_⟩
   rw [List.drop_of_length_le (by omega), show k = b.length by omega]
   simp [vl]
theorem w0m (a b : List Nat) (ha : Dg a) (hb : Dg b) (hsa : a.length ≤ 4194304) (hs : b.length ≤ 4194304) : ∀ (m i : Nat) (out : List Nat), i ≤ a.length → a.length + 8388608 < m + i → out.length = a.length + b.length → Dg out → (∀ j, i + b.length ≤ j → out.getD j 0 = 0) →
  ∃ out', z7i m (zs b) (zs a) (a.length : Int) (i : Int) (zs out) = some (.exit (zs out', ())) ∧ Dg out' ∧ out'.length = a.length + b.length ∧
   vl out' = vl out + 1000000000 ^ i * (vl (a.drop i) * vl b)
 | 0, i, out, h1, h2, h3, h4, h5 => by omega
 | m + 1, i, out, h1, h2, h3, h4, h5 => by
  simp only [z7i]
  by_cases hi : i < a.length
  ·have da := z4q ha i
   have e0 : (0 : Int) ≤ (i : Int) := by omega
   have e1 : (i : Int) < (a.length : Int) := by omega
   have e6 : IntKind.i64.wrap ((i : Int) + (b.length : Int)) = ((i + b.length : Nat) : Int) := by rw [w64 _ (by omega) (by omega)]; omega
   have e7 : (0 : Int) ≤ ((i + b.length : Nat) : Int) := by omega
   have e4 : IntKind.i64.wrap ((i : Int) + 1) = ((i + 1 : Nat) : Int) := by rw [w64 _ (by omega) (by omega)]; omega
   obtain ⟨c', out1, e, k1, k2, k3, k4, k5⟩ := yc5 b hb (a.getD i 0) i da hs (by omega) m 0 0 out (by omega) (by omega) (by omega) h4 (by omega)
   have e : z7j m (i : Int) ((a.getD i 0 : Nat) : Int) 0 (zs b) (b.length : Int) 0 (zs out) = _ := e
   simp only [z1f, Int.toNat_natCast, z65, e0, e1, if_true, decide_true, e4, e, e6, e7]
   rw [if_pos (by omega), u32n (by omega), zg7]
   obtain ⟨out', g, j1, j2, j3⟩ := w0m a b ha hb hsa hs m (i + 1) (out1.set (i + b.length) c') (by omega) (by omega) (by rw [List.length_set]; omega) (y8g k2 k1)
    (fun j hj => by rw [z4x _ _ _ _ _ (by omega), k4 j (by omega)]; exact h5 j (by omega))
   refine ⟨out', g, j1, j2, ?_⟩
   have hs2 := y72 out1 (i + b.length) c' (by omega)
   rw [k4 _ (by omega), h5 _ (by omega)] at hs2
   rw [z69 a i hi]
   rw [z55] at j3
   simp only [List.drop_zero, Nat.add_zero] at k5
   grind
  ·have e1 : ¬ (i : Int) < (a.length : Int) := by omega
   simp only [e1, decide_false, Bool.false_eq_true, if_false]
   refine ⟨out, rfl, h4, h3, ?_⟩
   rw [List.drop_of_length_le (by omega)]
   simp [vl]
theorem y4l {a b : Nat} (ha : Sz a) (hb : Sz b) : z4j fuel (zs (cn a)) (zs (cn b)) = some (zs (cn (a * b))) := by
 unfold z4j
 unfold Sz at ha hb
 have hf := zr1
 obtain ⟨out', e, k1, k2, k3⟩ := w0m (cn a) (cn b) (y07 a) (y07 b) ha hb fuel 0 (List.replicate ((cn a).length + (cn b).length) 0) (by omega) (by omega) (by simp) (yz6 _) (fun j _ => y7n _ j)
 have e : z7i fuel (zs (cn b)) (zs (cn a)) ((cn a).length : Int) 0 (zs (List.replicate ((cn a).length + (cn b).length) 0)) = _ := e
 have e6 : IntKind.i64.wrap (((cn a).length : Int) + ((cn b).length : Int)) = (((cn a).length + (cn b).length : Nat) : Int) := by rw [w64 _ (by omega) (by omega)]; omega
 simp only [z1f, e6, Int.toNat_natCast]
 rw [if_pos (by omega), if_pos (by omega), if_pos (by omega), yq9, e]
 simp only [z1f]
 obtain ⟨j, e2, k5⟩ := y70 fuel out'.length out' k1 (by omega) (by omega) (by omega)
 rw [e2]
 rw [List.take_length] at k5
 simp only [yq6, Nat.pow_zero, List.drop_zero, y4x, Nat.zero_add, Nat.one_mul] at k3
 show some ((zs out').take j) = _
 rw [y9p, k5, k3]
theorem yc8 (a : List Nat) (ha : Dg a) (hs : a.length ≤ 8388608) (d : Nat) (h0 : 0 < d) (hd : d < 1000000000) : ∀ (m i r : Nat) (out : List Nat), i ≤ a.length → i < m → out.length = a.length → Dg out → r < d → (∀ j, j < i → out.getD j 0 = 0) →
  ∃ r' out', z54 m (zs a) (d : Int) (r : Int) ((i : Int) - 1) (zs out) = some (.exit (((r' : Nat) : Int), zs out', ())) ∧ Dg out' ∧ out'.length = a.length ∧ r' < d ∧
   vl out' * d + r' = vl out * d + r * 1000000000 ^ i + vl (a.take i)
 | 0, i, r, out, h1, h2, h3, h4, h5, h6 => by omega
 | m + 1, 0, r, out, h1, h2, h3, h4, h5, h6 => by
  simp only [z54]
  exact ⟨r, out, by simp, h4, h3, h5, by simp [vl]⟩
 | m + 1, i + 1, r, out, h1, h2, h3, h4, h5, h6 => by
  simp only [z54]
  have da := z4q ha i
  have hi : ((i + 1 : Nat) : Int) - 1 = (i : Int) := by omega
  have e0 : (0 : Int) ≤ (i : Int) := by omega
  have e1 : (i : Int) < (a.length : Int) := by omega
  have e2 : (i : Int) < (out.length : Int) := by omega
  have e3 : IntKind.u64.wrap (d : Int) = (d : Int) := u64n (by omega)
  have e4 : ¬ ((d : Int) = 0) := by omega
  have hw : IntKind.i64.wrap ((i : Int) - 1) = (i : Int) - 1 := w64 _ (by omega) (by omega)
  have hq : (r * 1000000000 + a.getD i 0) / d < 1000000000 := by
   rw [Nat.div_lt_iff_lt_mul h0]
   have := Nat.mul_le_mul_right 1000000000 (show r + 1 ≤ d by omega)
   omega
  have hB : ((1000000000 : Int)) = ((1000000000 : Nat) : Int) := rfl
  simp only [hi, z1f, Int.toNat_natCast, z65, e0, e1, e2, e3, e4, if_true, if_false, decide_true, hw]
  rw [hB]
  simp (disch := omega) only [← Int.natCast_mul, ← Int.natCast_add, u64n, u32n, w7s, wb4]
  rw [zg7]
  obtain ⟨r', out', e, k1, k2, k3, k4⟩ := yc8 a ha hs d h0 hd m i ((r * 1000000000 + a.getD i 0) % d) (out.set i ((r * 1000000000 + a.getD i 0) / d)) (by omega) (by omega) (by rw [List.length_set]; exact h3) (y8g h4 hq) (Nat.mod_lt _ h0)
   (fun j hj => by rw [z4x _ _ _ _ _ (by omega)]; exact h6 j (by omega))
  refine ⟨r', out', e, k1, k2, k3, ?_⟩
  have hs := y72 out i ((r * 1000000000 + a.getD i 0) / d) (by omega)
  rw [h6 i (by omega)] at hs
  have ht : vl (a.take (i + 1)) = vl (a.take i) + 1000000000 ^ i * a.getD i 0 := by
   rw [List.take_succ_eq_append_getElem (by omega), z9q, List.length_take, Nat.min_eq_left (by omega), z36 a i 0 (by omega)]; simp [vl]
  have := Nat.div_add_mod (r * 1000000000 + a.getD i 0) d
  rw [k4, ht, z55]
  generalize (r * 1000000000 + a.getD i 0) % d = r1 at *
  generalize (r * 1000000000 + a.getD i 0) / d = q1 at *
  grind
theorem w14 {l : List Nat} {d : Nat} (hl : Dg l) (hs : l.length ≤ 8388608) (h0 : 0 < d) (hd : d < 1000000000) :
  z9j fuel (zs l) (d : Int) = some (zs (cn (vl l / d)), zs (cn (vl l % d))) := by
 unfold z9j
 have hf := zr1
 obtain ⟨r', out', e, k1, k2, k3, k4⟩ := yc8 l hl hs d h0 hd fuel l.length 0 (List.replicate l.length 0) (by omega) (by omega) (by simp) (yz6 _) h0 (fun j _ => y7n _ j)
 have e : z54 fuel (zs l) (d : Int) 0 ((l.length : Int) - 1) (zs (List.replicate l.length 0)) = _ := e
 simp only [z1f, Int.toNat_natCast]
 rw [if_pos (by omega), if_pos (by omega), if_pos (by omega), yq9, w64 _ (by omega) (by omega), e]
 simp only
 rw [u32n (by omega), w8w, yh7 k1 (by omega), yh7 (zj4.2 ⟨by omega, y1v⟩) (by simp)]
 simp only [yq6, Nat.zero_mul, Nat.zero_add, Nat.add_zero, List.take_length] at k4
 have h1 : vl l / d = vl out' := by
  rw [← k4, Nat.mul_comm, Nat.mul_add_div h0, Nat.div_eq_of_lt k3, Nat.add_zero]
 have h2 : vl l % d = r' := by
  rw [← k4, Nat.mul_comm, Nat.mul_add_mod, Nat.mod_eq_of_lt k3]
 rw [h1, h2]
 simp [vl]
end Go.Proofs.YtcdcoeofhnfjdaaDoor
