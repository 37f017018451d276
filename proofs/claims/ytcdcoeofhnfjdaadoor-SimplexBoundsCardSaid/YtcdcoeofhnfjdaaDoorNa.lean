/- What the functions on digits compute: comparison, sum, difference. -/
import Derived.Test.YtcdcoeofhnfjdaaDoorPf
import Derived.Test.YtcdcoeofhnfjdaaDoorVmD
namespace Go.Proofs.YtcdcoeofhnfjdaaDoor
open Go Vm
theorem zr2 : 1099511627776 ≤ fuel := z79 (by decide)
theorem w0c (a b : List Nat) (ha : Dg a) (hb : Dg b) (he : a.length = b.length) (hs : a.length ≤ 4194304) : ∀ (m i : Nat), i ≤ a.length → i < m → vl (a.drop i) = vl (b.drop i) →
  z7p m (zs a) (zs b) ((i : Int) - 1) = (if vl a < vl b then some (.ret (-1, ())) else if vl b < vl a then some (.ret (1, ())) else some (.exit ()))
 | 0, i, h1, h2, h3 => by omega
 | m + 1, 0, h1, h2, h3 => by
  simp only [z7p]
  rw [if_neg (by simp)]
  have : vl a = vl b := h3
  rw [if_neg (by omega), if_neg (by omega)]
 | m + 1, i + 1, h1, h2, h3 => by
  simp only [z7p]
  have hi : ((i + 1 : Nat) : Int) - 1 = (i : Int) := by omega
  have e0 : (0 : Int) ≤ (i : Int) := by omega
  have e1 : (i : Int) < (a.length : Int) := by omega
  have e2 : (i : Int) < (b.length : Int) := by omega
  simp only [hi, z1i, Int.toNat_natCast, z6d, e0, e1, e2, if_true, decide_true]
  by_cases hl : a.getD i 0 < b.getD i 0
  ·have := w9a ha hb (i := i) (by omega) (by omega) h3 hl
   rw [if_pos (by simpa using hl), if_pos this]
  ·rw [if_neg (by simpa using hl)]
   by_cases hg : b.getD i 0 < a.getD i 0
   ·have := w9a hb ha (i := i) (by omega) (by omega) h3.symm hg
    rw [if_pos (by simpa using hg), if_neg (by omega), if_pos this]
   ·rw [if_neg (by simpa using hg), w64 _ (by omega) (by omega)]
    refine w0c a b ha hb he hs m i (by omega) (by omega) ?_
    rw [z6h a i (by omega), z6h b i (by omega), h3]
    omega
def Sz (a : Nat) : Prop := (cn a).length ≤ 4194304
theorem w0d {a b : Nat} (ha : Sz a) (_ : Sz b) : z4n fuel (zs (cn a)) (zs (cn b)) = some (if a < b then -1 else if b < a then 1 else 0) := by
 unfold z4n Sz at *
 have hf := zr2
 simp only [z1i]
 by_cases hn : (cn a).length = (cn b).length
 ·have h := w0c (cn a) (cn b) (y0c a) (y0c b) hn ha fuel (cn a).length (by omega) (by omega) (by rw [List.drop_of_length_le (by omega), List.drop_of_length_le (by omega)])
  simp only [y5d] at h
  rw [if_neg (by simp; omega), w64 _ (by omega) (by omega), h]
  by_cases h1 : a < b
  ·simp only [if_pos h1]
  ·by_cases h2 : b < a
   ·simp only [if_neg h1, if_pos h2]
   ·simp only [if_neg h1, if_neg h2]
 ·rw [if_pos (by simp; omega)]
  by_cases hl : (cn a).length < (cn b).length
  ·rw [if_pos (by simpa using hl), if_pos (w8s hl)]
  ·have := w8s (a := b) (b := a) (by omega)
   rw [if_neg (by simpa using hl), if_neg (by omega), if_pos this]
theorem yf6 (b l : List Nat) (hb : Dg b) (hl : Dg l) (hs : l.length ≤ 4194304) : ∀ (m i c : Nat) (out : List Nat), i ≤ l.length → l.length < m + i → out.length = i → Dg out → c ≤ 1 →
  ∃ c' out', z5q m (zs b) (c : Int) (zs l) (l.length : Int) (i : Int) (zs out) = some (.exit (((c' : Nat) : Int), zs out', ())) ∧ c' ≤ 1 ∧ Dg out' ∧ out'.length = l.length ∧
   vl out' + 1000000000 ^ l.length * c' = vl out + 1000000000 ^ i * (vl (l.drop i) + vl ((b.take l.length).drop i) + c)
 | 0, i, c, out, h1, h2, h3, h4, h5 => by omega
 | m + 1, i, c, out, h1, h2, h3, h4, h5 => by
  simp only [z5q]
  by_cases hi : i < l.length
  ·have dl := z4v hl i
   have db := z4v hb i
   have e0 : (0 : Int) ≤ (i : Int) := by omega
   have e1 : (i : Int) < (l.length : Int) := by omega
   have e3 : (out.length + 1) * 4 ≤ 140737488355328 := by omega
   simp only [z1i, Int.toNat_natCast, z6d, e0, e1, e3, if_true, decide_true]
   have e4 : IntKind.i64.wrap ((i : Int) + 1) = ((i + 1 : Nat) : Int) := by rw [w64 _ (by omega) (by omega)]; omega
   rw [e4]
   by_cases hib : i < b.length
   ·have e2 : (i : Int) < (b.length : Int) := by omega
    simp (disch := omega) only [e2, if_true, decide_true, ← Int.natCast_add, u32n, yr5, yr7, y10]
    obtain ⟨c', out', e, k1, k2, k3, k4⟩ := yf6 b l hb hl hs m (i + 1) ((l.getD i 0 + c + b.getD i 0) / 1000000000) (out ++ [(l.getD i 0 + c + b.getD i 0) % 1000000000]) (by omega) (by omega) (by simp; omega)
     (z9j.2 ⟨h4, zj4.2 ⟨Nat.mod_lt _ (by decide), y22⟩⟩) (by omega)
    refine ⟨c', out', e, k1, k2, k3, ?_⟩
    rw [k4, z9u, h3, z6h l i hi, z6h (b.take l.length) i (by rw [List.length_take]; omega), getD_take _ _ _ hi, z5b]
    have := Nat.div_add_mod (l.getD i 0 + c + b.getD i 0) 1000000000
    simp only [vl]
    grind
   ·have e2 : ¬ (i : Int) < (b.length : Int) := by omega
    simp (disch := omega) only [e2, decide_false, Bool.false_eq_true, if_false, ← Int.natCast_add, u32n, yr5, yr7, y10]
    obtain ⟨c', out', e, k1, k2, k3, k4⟩ := yf6 b l hb hl hs m (i + 1) ((l.getD i 0 + c) / 1000000000) (out ++ [(l.getD i 0 + c) % 1000000000]) (by omega) (by omega) (by simp; omega)
     (z9j.2 ⟨h4, zj4.2 ⟨Nat.mod_lt _ (by decide), y22⟩⟩) (by omega)
    refine ⟨c', out', e, k1, k2, k3, ?_⟩
    rw [k4, z9u, h3, z6h l i hi, List.drop_of_length_le (show (b.take l.length).length ≤ i by rw [List.length_take]; omega), List.drop_of_length_le (show (b.take l.length).length ≤ i + 1 by rw [List.length_take]; omega), z5b]
    have := Nat.div_add_mod (l.getD i 0 + c) 1000000000
    simp only [vl]
    grind
  ·have e1 : ¬ (i : Int) < (l.length : Int) := by omega
   simp only [e1, decide_false, Bool.false_eq_true, if_false]
   refine ⟨c, out, rfl, h5, h4, by omega, ?_⟩
   rw [List.drop_of_length_le (by omega), List.drop_of_length_le (show (b.take l.length).length ≤ i by rw [List.length_take]; omega), show i = l.length by omega]
   simp [vl]
theorem w08 {a b : Nat} (ha : Sz a) (hl : (cn b).length ≤ (cn a).length) :
  ∃ c' out', z5q fuel (zs (cn b)) 0 (zs (cn a)) ((cn a).length : Int) 0 (List.replicate 0 0) = some (.exit (((c' : Nat) : Int), zs out', ())) ∧ out'.length = (cn a).length ∧
   (if 0 < c' then out' ++ [c'] else out') = cn (a + b) := by
 have hf := zr2
 unfold Sz at ha
 obtain ⟨c', out', e, k1, k2, k3, k4⟩ := yf6 (cn b) (cn a) (y0c b) (y0c a) ha fuel 0 0 [] (by omega) (by omega) rfl y22 (by omega)
 refine ⟨c', out', e, k3, ?_⟩
 simp only [vl, List.drop_zero, Nat.pow_zero, List.take_of_length_le hl, y5d, Nat.add_zero, Nat.zero_add, Nat.one_mul] at k4
 split
 ·rename_i h
  have : vl (out' ++ [c']) = a + b := by rw [z9u, k3, ← k4]; simp [vl]
  rw [← this, yu8]
  ·exact z9j.2 ⟨k2, zj4.2 ⟨by omega, y22⟩⟩
  ·omega
 ·rename_i h
  obtain rfl : c' = 0 := by omega
  rw [Nat.mul_zero, Nat.add_zero] at k4
  rw [← k4, w42 k2]
  rw [k4, k3]
  exact y8q (by omega)
theorem we3 {a b : Nat} (ha : Sz a) (hb : Sz b) : zu5 fuel (zs (cn a)) (zs (cn b)) = some (zs (cn (a + b))) := by
 unfold zu5
 have ha' := ha; have hb' := hb
 unfold Sz at ha' hb'
 have hf := zr2
 simp only [z1i]
 by_cases hl : (cn a).length < (cn b).length
 ·obtain ⟨c', out', e, k1, k2⟩ := w08 (a := b) (b := a) hb (by omega)
  rw [if_pos (by simpa using hl), w64 _ (by omega) (by omega), if_pos (by omega), if_pos (by omega), e]
  simp only [z1i]
  rw [Nat.add_comm a b, ← k2]
  by_cases hc : 0 < c'
  ·rw [if_pos (by simpa using hc), if_pos (by omega), if_pos hc, y10]
  ·rw [if_neg (by simpa using hc), if_neg hc]
 ·obtain ⟨c', out', e, k1, k2⟩ := w08 (a := a) (b := b) ha (by omega)
  rw [if_neg (by simpa using hl), w64 _ (by omega) (by omega), if_pos (by omega), if_pos (by omega), e]
  simp only [z1i]
  rw [← k2]
  by_cases hc : 0 < c'
  ·rw [if_pos (by simpa using hc), if_pos (by omega), if_pos hc, y10]
  ·rw [if_neg (by simpa using hc), if_neg hc]
theorem y7f : ∀ (m i : Nat) (l : List Nat), Dg l → i ≤ l.length → l.length ≤ 4194304 → i < m →
  ∃ j, z2u m i (zs l) = some (.exit (j, zs l, ())) ∧ l.take j = cn (vl (l.take i))
 | 0, i, l, h, h1, h2, h3 => by omega
 | m + 1, 0, l, h, h1, h2, h3 => by
  simp only [z2u]
  exact ⟨0, by simp, by simp [vl, z4u]⟩
 | m + 1, i + 1, l, h, h1, h2, h3 => by
  simp only [z2u]
  have e4 : IntKind.i64.wrap (((i + 1 : Nat) : Int) - 1) = (i : Int) := by rw [w64 _ (by omega) (by omega)]; omega
  have e0 : (0 : Int) ≤ (i : Int) := by omega
  have e1 : (i : Int) < ((i + 1 : Nat) : Int) := by omega
  have e2 : (i : Int) ≤ ((i + 1 : Nat) : Int) := by omega
  have e3 : ((i + 1 : Nat) : Int) > 0 := by omega
  simp only [e4, e0, e1, e2, e3, if_true, decide_true, Int.toNat_natCast, z6d]
  by_cases h0 : l.getD i 0 = 0
  ·rw [if_pos (by rw [h0]; rfl), y5a (by omega) h0]
   exact y7f m i l h (by omega) h2 (by omega)
  ·rw [if_neg (fun e => h0 (by simpa using e))]
   exact ⟨i + 1, rfl, y5b h (by omega) h0⟩
theorem y7e : ∀ (m i : Nat) (l : List Nat), Dg l → i ≤ l.length → l.length ≤ 8388608 → i < m →
  ∃ j, z2t m i (zs l) = some (.exit (j, zs l, ())) ∧ l.take j = cn (vl (l.take i))
 | 0, i, l, h, h1, h2, h3 => by omega
 | m + 1, 0, l, h, h1, h2, h3 => by
  simp only [z2t]
  exact ⟨0, by simp, by simp [vl, z4u]⟩
 | m + 1, i + 1, l, h, h1, h2, h3 => by
  simp only [z2t]
  have e4 : IntKind.i64.wrap (((i + 1 : Nat) : Int) - 1) = (i : Int) := by rw [w64 _ (by omega) (by omega)]; omega
  have e0 : (0 : Int) ≤ (i : Int) := by omega
  have e1 : (i : Int) < ((i + 1 : Nat) : Int) := by omega
  have e2 : (i : Int) ≤ ((i + 1 : Nat) : Int) := by omega
  have e3 : ((i + 1 : Nat) : Int) > 0 := by omega
  simp only [e4, e0, e1, e2, e3, if_true, decide_true, Int.toNat_natCast, z6d]
  by_cases h0 : l.getD i 0 = 0
  ·rw [if_pos (by rw [h0]; rfl), y5a (by omega) h0]
   exact y7e m i l h (by omega) h2 (by omega)
  ·rw [if_neg (fun e => h0 (by simpa using e))]
   exact ⟨i + 1, rfl, y5b h (by omega) h0⟩
theorem y59 : ∀ (m i : Nat) (l : List Nat), Dg l → i ≤ l.length → l.length ≤ 8388608 → i < m →
  ∃ j, z2y m i (zs l) = some (.exit (j, zs l, ())) ∧ l.take j = cn (vl (l.take i))
 | 0, i, l, h, h1, h2, h3 => by omega
 | m + 1, 0, l, h, h1, h2, h3 => by
  simp only [z2y]
  exact ⟨0, by simp, by simp [vl, z4u]⟩
 | m + 1, i + 1, l, h, h1, h2, h3 => by
  simp only [z2y]
  have e4 : IntKind.i64.wrap (((i + 1 : Nat) : Int) - 1) = (i : Int) := by rw [w64 _ (by omega) (by omega)]; omega
  have e0 : (0 : Int) ≤ (i : Int) := by omega
  have e1 : (i : Int) < ((i + 1 : Nat) : Int) := by omega
  have e2 : (i : Int) ≤ ((i + 1 : Nat) : Int) := by omega
  have e3 : ((i + 1 : Nat) : Int) > 0 := by omega
  simp only [e4, e0, e1, e2, e3, if_true, decide_true, Int.toNat_natCast, z6d]
  by_cases h0 : l.getD i 0 = 0
  ·rw [if_pos (by rw [h0]; rfl), y5a (by omega) h0]
   exact y59 m i l h (by omega) h2 (by omega)
  ·rw [if_neg (fun e => h0 (by simpa using e))]
   exact ⟨i + 1, rfl, y5b h (by omega) h0⟩
theorem yr9 : ∀ (m i : Nat) (l : List Nat), Dg l → i ≤ l.length → l.length ≤ 8388608 → i < m →
  z6p m (zs (l.take i)) = some (.exit (zs (cn (vl (l.take i))), ()))
 | 0, i, l, h, h1, h2, h3 => by omega
 | m + 1, 0, l, h, h1, h2, h3 => by
  simp only [z6p]
  simp [vl, z4u]
 | m + 1, i + 1, l, h, h1, h2, h3 => by
  simp only [z6p]
  have hl : (zs (l.take (i + 1))).length = i + 1 := by rw [z1i, List.length_take]; omega
  have e4 : IntKind.i64.wrap (((i + 1 : Nat) : Int) - 1) = (i : Int) := by rw [w64 _ (by omega) (by omega)]; omega
  have e0 : (0 : Int) ≤ (i : Int) := by omega
  have e1 : (i : Int) < ((i + 1 : Nat) : Int) := by omega
  have e2 : (i : Int) ≤ ((i + 1 : Nat) : Int) := by omega
  have e3 : ((i + 1 : Nat) : Int) > 0 := by omega
  simp only [hl, e4, e0, e1, e2, e3, if_true, decide_true, Int.toNat_natCast, z6d]
  rw [getD_take _ _ _ (by omega)]
  by_cases h0 : l.getD i 0 = 0
  ·rw [if_pos (by rw [h0]; rfl), y5a (by omega) h0, List.drop_zero, y9z, List.take_take, Nat.min_eq_left (by omega)]
   exact yr9 m i l h (by omega) h2 (by omega)
  ·rw [if_neg (fun e => h0 (by simpa using e)), ← y5b h (by omega) h0]
theorem yj3 {l : List Nat} (h : Dg l) (hs : l.length ≤ 8388608) : z73 fuel (zs l) = some (zs (cn (vl l))) := by
 unfold z73
 have hf := zr2
 have := yr9 fuel l.length l h (by omega) hs (by omega)
 rw [List.take_length] at this
 rw [this]
end Go.Proofs.YtcdcoeofhnfjdaaDoor
