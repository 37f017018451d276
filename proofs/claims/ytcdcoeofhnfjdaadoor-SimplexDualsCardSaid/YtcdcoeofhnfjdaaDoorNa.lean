/- What the functions on digits compute: comparison, sum, difference. -/
import Derived.Test.YtcdcoeofhnfjdaaDoorPf
import Derived.Test.YtcdcoeofhnfjdaaDoorVmD
namespace Go.Proofs.YtcdcoeofhnfjdaaDoor
open Go Vm
theorem zr1 : 1099511627776 ≤ fuel := z82 (by decide)
theorem yz2 (a b : List Nat) (ha : Dg a) (hb : Dg b) (he : a.length = b.length) (hs : a.length ≤ 4194304) : ∀ (m i : Nat), i ≤ a.length → i < m → vl (a.drop i) = vl (b.drop i) →
  z7g m (zs a) (zs b) ((i : Int) - 1) = (if vl a < vl b then some (.ret (-1, ())) else if vl b < vl a then some (.ret (1, ())) else some (.exit ()))
 | 0, i, h1, h2, h3 => by omega
 | m + 1, 0, h1, h2, h3 => by
  simp only [z7g]
  rw [if_neg (by simp)]
  have : vl a = vl b := h3
  rw [if_neg (by omega), if_neg (by omega)]
 | m + 1, i + 1, h1, h2, h3 => by
  simp only [z7g]
  have hi : ((i + 1 : Nat) : Int) - 1 = (i : Int) := by omega
  have e0 : (0 : Int) ≤ (i : Int) := by omega
  have e1 : (i : Int) < (a.length : Int) := by omega
  have e2 : (i : Int) < (b.length : Int) := by omega
  simp only [hi, z1f, Int.toNat_natCast, z65, e0, e1, e2, if_true, decide_true]
  by_cases hl : a.getD i 0 < b.getD i 0
  ·have := w8v ha hb (i := i) (by omega) (by omega) h3 hl
   rw [if_pos (by simpa using hl), if_pos this]
  ·rw [if_neg (by simpa using hl)]
   by_cases hg : b.getD i 0 < a.getD i 0
   ·have := w8v hb ha (i := i) (by omega) (by omega) h3.symm hg
    rw [if_pos (by simpa using hg), if_neg (by omega), if_pos this]
   ·rw [if_neg (by simpa using hg), w64 _ (by omega) (by omega)]
    refine yz2 a b ha hb he hs m i (by omega) (by omega) ?_
    rw [z69 a i (by omega), z69 b i (by omega), h3]
    omega
def Sz (a : Nat) : Prop := (cn a).length ≤ 4194304
theorem yz3 {a b : Nat} (ha : Sz a) (_ : Sz b) : z4i fuel (zs (cn a)) (zs (cn b)) = some (if a < b then -1 else if b < a then 1 else 0) := by
 unfold z4i Sz at *
 have hf := zr1
 simp only [z1f]
 by_cases hn : (cn a).length = (cn b).length
 ·have h := yz2 (cn a) (cn b) (y07 a) (y07 b) hn ha fuel (cn a).length (by omega) (by omega) (by rw [List.drop_of_length_le (by omega), List.drop_of_length_le (by omega)])
  simp only [y4x] at h
  rw [if_neg (by simp; omega), w64 _ (by omega) (by omega), h]
  by_cases h1 : a < b
  ·simp only [if_pos h1]
  ·by_cases h2 : b < a
   ·simp only [if_neg h1, if_pos h2]
   ·simp only [if_neg h1, if_neg h2]
 ·rw [if_pos (by simp; omega)]
  by_cases hl : (cn a).length < (cn b).length
  ·rw [if_pos (by simpa using hl), if_pos (w8d hl)]
  ·have := w8d (a := b) (b := a) (by omega)
   rw [if_neg (by simpa using hl), if_neg (by omega), if_pos this]
theorem ye1 (b l : List Nat) (hb : Dg b) (hl : Dg l) (hs : l.length ≤ 4194304) : ∀ (m i c : Nat) (out : List Nat), i ≤ l.length → l.length < m + i → out.length = i → Dg out → c ≤ 1 →
  ∃ c' out', z5f m (zs b) (c : Int) (zs l) (l.length : Int) (i : Int) (zs out) = some (.exit (((c' : Nat) : Int), zs out', ())) ∧ c' ≤ 1 ∧ Dg out' ∧ out'.length = l.length ∧
   vl out' + 1000000000 ^ l.length * c' = vl out + 1000000000 ^ i * (vl (l.drop i) + vl ((b.take l.length).drop i) + c)
 | 0, i, c, out, h1, h2, h3, h4, h5 => by omega
 | m + 1, i, c, out, h1, h2, h3, h4, h5 => by
  simp only [z5f]
  by_cases hi : i < l.length
  ·have dl := z4q hl i
   have db := z4q hb i
   have e0 : (0 : Int) ≤ (i : Int) := by omega
   have e1 : (i : Int) < (l.length : Int) := by omega
   have e3 : (out.length + 1) * 4 ≤ 140737488355328 := by omega
   simp only [z1f, Int.toNat_natCast, z65, e0, e1, e3, if_true, decide_true]
   have e4 : IntKind.i64.wrap ((i : Int) + 1) = ((i + 1 : Nat) : Int) := by rw [w64 _ (by omega) (by omega)]; omega
   rw [e4]
   by_cases hib : i < b.length
   ·have e2 : (i : Int) < (b.length : Int) := by omega
    simp (disch := omega) only [e2, if_true, decide_true, ← Int.natCast_add, u32n, yp9, yq1, y0y]
    obtain ⟨c', out', e, k1, k2, k3, k4⟩ := ye1 b l hb hl hs m (i + 1) ((l.getD i 0 + c + b.getD i 0) / 1000000000) (out ++ [(l.getD i 0 + c + b.getD i 0) % 1000000000]) (by omega) (by omega) (by simp; omega)
     (z9g.2 ⟨h4, zj4.2 ⟨Nat.mod_lt _ (by decide), y1v⟩⟩) (by omega)
    refine ⟨c', out', e, k1, k2, k3, ?_⟩
    rw [k4, z9q, h3, z69 l i hi, z69 (b.take l.length) i (by rw [List.length_take]; omega), getD_take _ _ _ hi, z55]
    have := Nat.div_add_mod (l.getD i 0 + c + b.getD i 0) 1000000000
    simp only [vl]
    grind
   ·have e2 : ¬ (i : Int) < (b.length : Int) := by omega
    simp (disch := omega) only [e2, decide_false, Bool.false_eq_true, if_false, ← Int.natCast_add, u32n, yp9, yq1, y0y]
    obtain ⟨c', out', e, k1, k2, k3, k4⟩ := ye1 b l hb hl hs m (i + 1) ((l.getD i 0 + c) / 1000000000) (out ++ [(l.getD i 0 + c) % 1000000000]) (by omega) (by omega) (by simp; omega)
     (z9g.2 ⟨h4, zj4.2 ⟨Nat.mod_lt _ (by decide), y1v⟩⟩) (by omega)
    refine ⟨c', out', e, k1, k2, k3, ?_⟩
    rw [k4, z9q, h3, z69 l i hi, List.drop_of_length_le (show (b.take l.length).length ≤ i by rw [List.length_take]; omega), List.drop_of_length_le (show (b.take l.length).length ≤ i + 1 by rw [List.length_take]; omega), z55]
    have := Nat.div_add_mod (l.getD i 0 + c) 1000000000
    simp only [vl]
    grind
  ·have e1 : ¬ (i : Int) < (l.length : Int) := by omega
   simp only [e1, decide_false, Bool.false_eq_true, if_false]
   refine ⟨c, out, rfl, h5, h4, by omega, ?_⟩
   rw [List.drop_of_length_le (by omega), List.drop_of_length_le (show (b.take l.length).length ≤ i by rw [List.length_take]; omega), show i = l.length by omega]
   simp [vl]
theorem yy8 {a b : Nat} (ha : Sz a) (hl : (cn b).length ≤ (cn a).length) :
  ∃ c' out', z5f fuel (zs (cn b)) 0 (zs (cn a)) ((cn a).length : Int) 0 (List.replicate 0 0) = some (.exit (((c' : Nat) : Int), zs out', ())) ∧ out'.length = (cn a).length ∧
   (if 0 < c' then out' ++ [c'] else out') = cn (a + b) := by
 have hf := zr1
 unfold Sz at ha
 obtain ⟨c', out', e, k1, k2, k3, k4⟩ := ye1 (cn b) (cn a) (y07 b) (y07 a) ha fuel 0 0 [] (by omega) (by omega) rfl y1v (by omega)
 refine ⟨c', out', e, k3, ?_⟩
 simp only [vl, List.drop_zero, Nat.pow_zero, List.take_of_length_le hl, y4x, Nat.add_zero, Nat.zero_add, Nat.one_mul] at k4
 split
 ·rename_i h
  have : vl (out' ++ [c']) = a + b := by rw [z9q, k3, ← k4]; simp [vl]
  rw [← this, yt0]
  ·exact z9g.2 ⟨k2, zj4.2 ⟨by omega, y1v⟩⟩
  ·omega
 ·rename_i h
  obtain rfl : c' = 0 := by omega
  rw [Nat.mul_zero, Nat.add_zero] at k4
  rw [← k4, w3k k2]
  rw [k4, k3]
  exact y8d (by omega)
theorem wc9 {a b : Nat} (ha : Sz a) (hb : Sz b) : zu7 fuel (zs (cn a)) (zs (cn b)) = some (zs (cn (a + b))) := by
 unfold zu7
 have ha' := ha; have hb' := hb
 unfold Sz at ha' hb'
 have hf := zr1
 simp only [z1f]
 by_cases hl : (cn a).length < (cn b).length
 ·obtain ⟨c', out', e, k1, k2⟩ := yy8 (a := b) (b := a) hb (by omega)
  rw [if_pos (by simpa using hl), w64 _ (by omega) (by omega), if_pos (by omega), if_pos (by omega), e]
  simp only [z1f]
  rw [Nat.add_comm a b, ← k2]
  by_cases hc : 0 < c'
  ·rw [if_pos (by simpa using hc), if_pos (by omega), if_pos hc, y0y]
  ·rw [if_neg (by simpa using hc), if_neg hc]
 ·obtain ⟨c', out', e, k1, k2⟩ := yy8 (a := a) (b := b) ha (by omega)
  rw [if_neg (by simpa using hl), w64 _ (by omega) (by omega), if_pos (by omega), if_pos (by omega), e]
  simp only [z1f]
  rw [← k2]
  by_cases hc : 0 < c'
  ·rw [if_pos (by simpa using hc), if_pos (by omega), if_pos hc, y0y]
  ·rw [if_neg (by simpa using hc), if_neg hc]
theorem y71 : ∀ (m i : Nat) (l : List Nat), Dg l → i ≤ l.length → l.length ≤ 4194304 → i < m →
  ∃ j, z2u m i (zs l) = some (.exit (j, zs l, ())) ∧ l.take j = cn (vl (l.take i))
 | 0, i, l, h, h1, h2, h3 => by omega
 | m + 1, 0, l, h, h1, h2, h3 => by
  simp only [z2u]
  exact ⟨0, by simp, by simp [vl, z4p]⟩
 | m + 1, i + 1, l, h, h1, h2, h3 => by
  simp only [z2u]
  have e4 : IntKind.i64.wrap (((i + 1 : Nat) : Int) - 1) = (i : Int) := by rw [w64 _ (by omega) (by omega)]; omega
  have e0 : (0 : Int) ≤ (i : Int) := by omega
  have e1 : (i : Int) < ((i + 1 : Nat) : Int) := by omega
  have e2 : (i : Int) ≤ ((i + 1 : Nat) : Int) := by omega
  have e3 : ((i + 1 : Nat) : Int) > 0 := by omega
  simp only [e4, e0, e1, e2, e3, if_true, decide_true, Int.toNat_natCast, z65]
  by_cases h0 : l.getD i 0 = 0
  ·rw [if_pos (by rw [h0]; rfl), y4u (by omega) h0]
   exact y71 m i l h (by omega) h2 (by omega)
  ·rw [if_neg (fun e => h0 (by simpa using e))]
   exact ⟨i + 1, rfl, y4v h (by omega) h0⟩
theorem y70 : ∀ (m i : Nat) (l : List Nat), Dg l → i ≤ l.length → l.length ≤ 8388608 → i < m →
  ∃ j, z2t m i (zs l) = some (.exit (j, zs l, ())) ∧ l.take j = cn (vl (l.take i))
 | 0, i, l, h, h1, h2, h3 => by omega
 | m + 1, 0, l, h, h1, h2, h3 => by
  simp only [z2t]
  exact ⟨0, by simp, by simp [vl, z4p]⟩
 | m + 1, i + 1, l, h, h1, h2, h3 => by
  simp only [z2t]
  have e4 : IntKind.i64.wrap (((i + 1 : Nat) : Int) - 1) = (i : Int) := by rw [w64 _ (by omega) (by omega)]; omega
  have e0 : (0 : Int) ≤ (i : Int) := by omega
  have e1 : (i : Int) < ((i + 1 : Nat) : Int) := by omega
  have e2 : (i : Int) ≤ ((i + 1 : Nat) : Int) := by omega
  have e3 : ((i + 1 : Nat) : Int) > 0 := by omega
  simp only [e4, e0, e1, e2, e3, if_true, decide_true, Int.toNat_natCast, z65]
  by_cases h0 : l.getD i 0 = 0
  ·rw [if_pos (by rw [h0]; rfl), y4u (by omega) h0]
   exact y70 m i l h (by omega) h2 (by omega)
  ·rw [if_neg (fun e => h0 (by simpa using e))]
   exact ⟨i + 1, rfl, y4v h (by omega) h0⟩
theorem y4t : ∀ (m i : Nat) (l : List Nat), Dg l → i ≤ l.length → l.length ≤ 8388608 → i < m →
  ∃ j, z2y m i (zs l) = some (.exit (j, zs l, ())) ∧ l.take j = cn (vl (l.take i))
 | 0, i, l, h, h1, h2, h3 => by omega
 | m + 1, 0, l, h, h1, h2, h3 => by
  simp only [z2y]
  exact ⟨0, by simp, by simp [vl, z4p]⟩
 | m + 1, i + 1, l, h, h1, h2, h3 => by
  simp only [z2y]
  have e4 : IntKind.i64.wrap (((i + 1 : Nat) : Int) - 1) = (i : Int) := by rw [w64 _ (by omega) (by omega)]; omega
  have e0 : (0 : Int) ≤ (i : Int) := by omega
  have e1 : (i : Int) < ((i + 1 : Nat) : Int) := by omega
  have e2 : (i : Int) ≤ ((i + 1 : Nat) : Int) := by omega
  have e3 : ((i + 1 : Nat) : Int) > 0 := by omega
  simp only [e4, e0, e1, e2, e3, if_true, decide_true, Int.toNat_natCast, z65]
  by_cases h0 : l.getD i 0 = 0
  ·rw [if_pos (by rw [h0]; rfl), y4u (by omega) h0]
   exact y4t m i l h (by omega) h2 (by omega)
  ·rw [if_neg (fun e => h0 (by simpa using e))]
   exact ⟨i + 1, rfl, y4v h (by omega) h0⟩
theorem yq4 : ∀ (m i : Nat) (l : List Nat), Dg l → i ≤ l.length → l.length ≤ 8388608 → i < m →
  z6h m (zs (l.take i)) = some (.exit (zs (cn (vl (l.take i))), ()))
 | 0, i, l, h, h1, h2, h3 => by omega
 | m + 1, 0, l, h, h1, h2, h3 => by
  simp only [z6h]
  simp [vl, z4p]
 | m + 1, i + 1, l, h, h1, h2, h3 => by
  simp only [z6h]
  have hl : (zs (l.take (i + 1))).length = i + 1 := by rw [z1f, List.length_take]; omega
  have e4 : IntKind.i64.wrap (((i + 1 : Nat) : Int) - 1) = (i : Int) := by rw [w64 _ (by omega) (by omega)]; omega
  have e0 : (0 : Int) ≤ (i : Int) := by omega
  have e1 : (i : Int) < ((i + 1 : Nat) : Int) := by omega
  have e2 : (i : Int) ≤ ((i + 1 : Nat) : Int) := by omega
  have e3 : ((i + 1 : Nat) : Int) > 0 := by omega
  simp only [hl, e4, e0, e1, e2, e3, if_true, decide_true, Int.toNat_natCast, z65]
  rw [getD_take _ _ _ (by omega)]
  by_cases h0 : l.getD i 0 = 0
  ·rw [if_pos (by rw [h0]; rfl), y4u (by omega) h0, List.drop_zero, y9p, List.take_take, Nat.min_eq_left (by omega)]
   exact yq4 m i l h (by omega) h2 (by omega)
  ·rw [if_neg (fun e => h0 (by simpa using e)), ← y4v h (by omega) h0]
theorem yh7 {l : List Nat} (h : Dg l) (hs : l.length ≤ 8388608) : z6x fuel (zs l) = some (zs (cn (vl l))) := by
 unfold z6x
 have hf := zr1
 have := yq4 fuel l.length l h (by omega) hs (by omega)
 rw [List.take_length] at this
 rw [this]
end Go.Proofs.YtcdcoeofhnfjdaaDoor
