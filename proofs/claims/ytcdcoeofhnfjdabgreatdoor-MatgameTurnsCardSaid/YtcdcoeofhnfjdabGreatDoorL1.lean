/- What the pure functions of this claim compute, and what follows from it: part 1. -/
import Derived.Test.YtcdcoeofhnfjdabGreatDoorPf
import Derived.Test.YtcdcoeofhnfjdabGreatDoorVmD
set_option maxHeartbeats 1000000
set_option linter.unusedVariables false
namespace Go.Proofs.YtcdcoeofhnfjdabGreatDoor
open Go Vm
theorem y04 : 1099511627776 <= fuel := z82 (by decide)
theorem w5s (a b : List Nat) (ha : Dg a) (hb : Dg b) (he : a.length = b.length) (hs : a.length <= 4194304) : ∀ (m i : Nat), i <= a.length -> i < m -> vl (a.drop i) = vl (b.drop i) ->
  z8k m (zs a) (zs b) ((i : Int) - 1) = (if vl a < vl b then some (.ret (-1, ())) else if vl b < vl a then some (.ret (1, ())) else some (.exit ()))
 | 0, i, h1, h2, h3 => by omega
 | m + 1, 0, h1, h2, h3 => by
  simp only [z8k]
  rw [if_neg (by simp)]
  have : vl a = vl b := h3
  rw [if_neg (by omega), if_neg (by omega)]
 | m + 1, i + 1, h1, h2, h3 => by
  simp only [z8k]
  have hi : ((i + 1 : Nat) : Int) - 1 = (i : Int) := by omega
  have e0 : (0 : Int) <= (i : Int) := by omega
  have e1 : (i : Int) < (a.length : Int) := by omega
  have e2 : (i : Int) < (b.length : Int) := by omega
  simp only [hi, z1g, Int.toNat_natCast, z6x, e0, e1, e2, if_true, decide_true]
  by_cases hl : a.getD i 0 < b.getD i 0
  ·have := wv3 ha hb (i := i) (by omega) (by omega) h3 hl
   rw [if_pos (by simpa using hl), if_pos this]
  ·rw [if_neg (by simpa using hl)]
   by_cases hg : b.getD i 0 < a.getD i 0
   ·have := wv3 hb ha (i := i) (by omega) (by omega) h3.symm hg
    rw [if_pos (by simpa using hg), if_neg (by omega), if_pos this]
   ·rw [if_neg (by simpa using hg), w64 _ (by omega) (by omega)]
    refine w5s a b ha hb he hs m i (by omega) (by omega) ?_
    rw [z75 a i (by omega), z75 b i (by omega), h3]
    omega
def Sz (a : Nat) : Prop := (cn a).length <= 4194304
theorem w5t {a b : Nat} (ha : Sz a) (_ : Sz b) : z4u fuel (zs (cn a)) (zs (cn b)) = some (if a < b then -1 else if b < a then 1 else 0) := by
 unfold z4u Sz at *
 have hf := y04
 simp only [z1g]
 by_cases hn : (cn a).length = (cn b).length
 ·have h := w5s (cn a) (cn b) (y2m a) (y2m b) hn ha fuel (cn a).length (by omega) (by omega) (by rw [List.drop_of_length_le (by omega), List.drop_of_length_le (by omega)])
  simp only [y86] at h
  rw [if_neg (by simp; omega), w64 _ (by omega) (by omega), h]
  by_cases h1 : a < b
  ·simp only [if_pos h1]
  ·by_cases h2 : b < a
   ·simp only [if_neg h1, if_pos h2]
   ·simp only [if_neg h1, if_neg h2]
 ·rw [if_pos (by simp; omega)]
  by_cases hl : (cn a).length < (cn b).length
  ·rw [if_pos (by simpa using hl), if_pos (wt3 hl)]
  ·have := wt3 (a := b) (b := a) (by omega)
   rw [if_neg (by simpa using hl), if_neg (by omega), if_pos this]
theorem yv6 (b l : List Nat) (hb : Dg b) (hl : Dg l) (hs : l.length <= 4194304) : ∀ (m i c : Nat) (out : List Nat), i <= l.length -> l.length < m + i -> out.length = i -> Dg out -> c <= 1 ->
  ∃ c' out', z63 m (zs b) (c : Int) (zs l) (l.length : Int) (i : Int) (zs out) = some (.exit (((c' : Nat) : Int), zs out', ())) /\ c' <= 1 /\ Dg out' /\ out'.length = l.length /\
   vl out' + 1000000000 ^ l.length * c' = vl out + 1000000000 ^ i * (vl (l.drop i) + vl ((b.take l.length).drop i) + c)
 | 0, i, c, out, h1, h2, h3, h4, h5 => by omega
 | m + 1, i, c, out, h1, h2, h3, h4, h5 => by
  simp only [z63]
  by_cases hi : i < l.length
  ·have dl := z54 hl i
   have db := z54 hb i
   have e0 : (0 : Int) <= (i : Int) := by omega
   have e1 : (i : Int) < (l.length : Int) := by omega
   have e3 : (out.length + 1) * 4 <= 140737488355328 := by omega
   simp only [z1g, Int.toNat_natCast, z6x, e0, e1, e3, if_true, decide_true]
   have e4 : IntKind.i64.wrap ((i : Int) + 1) = ((i + 1 : Nat) : Int) := by rw [w64 _ (by omega) (by omega)]; omega
   rw [e4]
   by_cases hib : i < b.length
   ·have e2 : (i : Int) < (b.length : Int) := by omega
    simp (disch := omega) only [e2, if_true, decide_true, <- Int.natCast_add, ye3, w2r, w2t, y3m]
    obtain ⟨c', out', e, k1, k2, k3, k4⟩ := yv6 b l hb hl hs m (i + 1) ((l.getD i 0 + c + b.getD i 0) / 1000000000) (out ++ [(l.getD i 0 + c + b.getD i 0) % 1000000000]) (by omega) (by omega) (by simp; omega)
     (zd8.2 ⟨h4, zq3.2 ⟨Nat.mod_lt _ (by decide), y4o⟩⟩) (by omega)
    refine ⟨c', out', e, k1, k2, k3, ?_⟩
    rw [k4, zf5, h3, z75 l i hi, z75 (b.take l.length) i (by rw [List.length_take]; omega), getD_take _ _ _ hi, z5s]
    have := Nat.div_add_mod (l.getD i 0 + c + b.getD i 0) 1000000000
    simp only [vl]
    grind
   ·have e2 : ¬ (i : Int) < (b.length : Int) := by omega
    simp (disch := omega) only [e2, decide_false, Bool.false_eq_true, if_false, <- Int.natCast_add, ye3, w2r, w2t, y3m]
    obtain ⟨c', out', e, k1, k2, k3, k4⟩ := yv6 b l hb hl hs m (i + 1) ((l.getD i 0 + c) / 1000000000) (out ++ [(l.getD i 0 + c) % 1000000000]) (by omega) (by omega) (by simp; omega)
     (zd8.2 ⟨h4, zq3.2 ⟨Nat.mod_lt _ (by decide), y4o⟩⟩) (by omega)
    refine ⟨c', out', e, k1, k2, k3, ?_⟩
    rw [k4, zf5, h3, z75 l i hi, List.drop_of_length_le (show (b.take l.length).length <= i by rw [List.length_take]; omega), List.drop_of_length_le (show (b.take l.length).length <= i + 1 by rw [List.length_take]; omega), z5s]
    have := Nat.div_add_mod (l.getD i 0 + c) 1000000000
    simp only [vl]
    grind
  ·have e1 : ¬ (i : Int) < (l.length : Int) := by omega
   simp only [e1, decide_false, Bool.false_eq_true, if_false]
   refine ⟨c, out, rfl, h5, h4, by omega, ?_⟩
   rw [List.drop_of_length_le (by omega), List.drop_of_length_le (show (b.take l.length).length <= i by rw [List.length_take]; omega), show i = l.length by omega]
   simp [vl]
theorem w5o {a b : Nat} (ha : Sz a) (hl : (cn b).length <= (cn a).length) :
  ∃ c' out', z63 fuel (zs (cn b)) 0 (zs (cn a)) ((cn a).length : Int) 0 (List.replicate 0 0) = some (.exit (((c' : Nat) : Int), zs out', ())) /\ out'.length = (cn a).length /\
   (if 0 < c' then out' ++ [c'] else out') = cn (a + b) := by
 have hf := y04
 unfold Sz at ha
 obtain ⟨c', out', e, k1, k2, k3, k4⟩ := yv6 (cn b) (cn a) (y2m b) (y2m a) ha fuel 0 0 [] (by omega) (by omega) rfl y4o (by omega)
 refine ⟨c', out', e, k3, ?_⟩
 simp only [vl, List.drop_zero, Nat.pow_zero, List.take_of_length_le hl, y86, Nat.add_zero, Nat.zero_add, Nat.one_mul] at k4
 split
 ·rename_i h
  have : vl (out' ++ [c']) = a + b := by rw [zf5, k3, <- k4]; simp [vl]
  rw [<- this, w40]
  ·exact zd8.2 ⟨k2, zq3.2 ⟨by omega, y4o⟩⟩
  ·omega
 ·rename_i h
  obtain rfl : c' = 0 := by omega
  rw [Nat.mul_zero, Nat.add_zero] at k4
  rw [<- k4, wa5 k2]
  rw [k4, k3]
  exact yh1 (by omega)
theorem v0u {a b : Nat} (ha : Sz a) (hb : Sz b) : y12 fuel (zs (cn a)) (zs (cn b)) = some (zs (cn (a + b))) := by
 unfold y12
 have ha' := ha; have hb' := hb
 unfold Sz at ha' hb'
 have hf := y04
 simp only [z1g]
 by_cases hl : (cn a).length < (cn b).length
 ·obtain ⟨c', out', e, k1, k2⟩ := w5o (a := b) (b := a) hb (by omega)
  rw [if_pos (by simpa using hl), w64 _ (by omega) (by omega), if_pos (by omega), if_pos (by omega), e]
  simp only [z1g]
  rw [Nat.add_comm a b, <- k2]
  by_cases hc : 0 < c'
  ·rw [if_pos (by simpa using hc), if_pos (by omega), if_pos hc, y3m]
  ·rw [if_neg (by simpa using hc), if_neg hc]
 ·obtain ⟨c', out', e, k1, k2⟩ := w5o (a := a) (b := b) ha (by omega)
  rw [if_neg (by simpa using hl), w64 _ (by omega) (by omega), if_pos (by omega), if_pos (by omega), e]
  simp only [z1g]
  rw [<- k2]
  by_cases hc : 0 < c'
  ·rw [if_pos (by simpa using hc), if_pos (by omega), if_pos hc, y3m]
  ·rw [if_neg (by simpa using hc), if_neg hc]
theorem ya9 : ∀ (m i : Nat) (l : List Nat), Dg l -> i <= l.length -> l.length <= 4194304 -> i < m ->
  ∃ j, z30 m i (zs l) = some (.exit (j, zs l, ())) /\ l.take j = cn (vl (l.take i))
 | 0, i, l, h, h1, h2, h3 => by omega
 | m + 1, 0, l, h, h1, h2, h3 => by
  simp only [z30]
  exact ⟨0, by simp, by simp [vl, z53]⟩
 | m + 1, i + 1, l, h, h1, h2, h3 => by
  simp only [z30]
  have e4 : IntKind.i64.wrap (((i + 1 : Nat) : Int) - 1) = (i : Int) := by rw [w64 _ (by omega) (by omega)]; omega
  have e0 : (0 : Int) <= (i : Int) := by omega
  have e1 : (i : Int) < ((i + 1 : Nat) : Int) := by omega
  have e2 : (i : Int) <= ((i + 1 : Nat) : Int) := by omega
  have e3 : ((i + 1 : Nat) : Int) > 0 := by omega
  simp only [e4, e0, e1, e2, e3, if_true, decide_true, Int.toNat_natCast, z6x]
  by_cases h0 : l.getD i 0 = 0
  ·rw [if_pos (by rw [h0]; rfl), y83 (by omega) h0]
   exact ya9 m i l h (by omega) h2 (by omega)
  ·rw [if_neg (fun e => h0 (by simpa using e))]
   exact ⟨i + 1, rfl, y84 h (by omega) h0⟩
theorem ya8 : ∀ (m i : Nat) (l : List Nat), Dg l -> i <= l.length -> l.length <= 8388608 -> i < m ->
  ∃ j, z2z m i (zs l) = some (.exit (j, zs l, ())) /\ l.take j = cn (vl (l.take i))
 | 0, i, l, h, h1, h2, h3 => by omega
 | m + 1, 0, l, h, h1, h2, h3 => by
  simp only [z2z]
  exact ⟨0, by simp, by simp [vl, z53]⟩
 | m + 1, i + 1, l, h, h1, h2, h3 => by
  simp only [z2z]
  have e4 : IntKind.i64.wrap (((i + 1 : Nat) : Int) - 1) = (i : Int) := by rw [w64 _ (by omega) (by omega)]; omega
  have e0 : (0 : Int) <= (i : Int) := by omega
  have e1 : (i : Int) < ((i + 1 : Nat) : Int) := by omega
  have e2 : (i : Int) <= ((i + 1 : Nat) : Int) := by omega
  have e3 : ((i + 1 : Nat) : Int) > 0 := by omega
  simp only [e4, e0, e1, e2, e3, if_true, decide_true, Int.toNat_natCast, z6x]
  by_cases h0 : l.getD i 0 = 0
  ·rw [if_pos (by rw [h0]; rfl), y83 (by omega) h0]
   exact ya8 m i l h (by omega) h2 (by omega)
  ·rw [if_neg (fun e => h0 (by simpa using e))]
   exact ⟨i + 1, rfl, y84 h (by omega) h0⟩
theorem y82 : ∀ (m i : Nat) (l : List Nat), Dg l -> i <= l.length -> l.length <= 8388608 -> i < m ->
  ∃ j, z32 m i (zs l) = some (.exit (j, zs l, ())) /\ l.take j = cn (vl (l.take i))
 | 0, i, l, h, h1, h2, h3 => by omega
 | m + 1, 0, l, h, h1, h2, h3 => by
  simp only [z32]
  exact ⟨0, by simp, by simp [vl, z53]⟩
 | m + 1, i + 1, l, h, h1, h2, h3 => by
  simp only [z32]
  have e4 : IntKind.i64.wrap (((i + 1 : Nat) : Int) - 1) = (i : Int) := by rw [w64 _ (by omega) (by omega)]; omega
  have e0 : (0 : Int) <= (i : Int) := by omega
  have e1 : (i : Int) < ((i + 1 : Nat) : Int) := by omega
  have e2 : (i : Int) <= ((i + 1 : Nat) : Int) := by omega
  have e3 : ((i + 1 : Nat) : Int) > 0 := by omega
  simp only [e4, e0, e1, e2, e3, if_true, decide_true, Int.toNat_natCast, z6x]
  by_cases h0 : l.getD i 0 = 0
  ·rw [if_pos (by rw [h0]; rfl), y83 (by omega) h0]
   exact y82 m i l h (by omega) h2 (by omega)
  ·rw [if_neg (fun e => h0 (by simpa using e))]
   exact ⟨i + 1, rfl, y84 h (by omega) h0⟩
theorem w2w : ∀ (m i : Nat) (l : List Nat), Dg l -> i <= l.length -> l.length <= 8388608 -> i < m ->
  z7f m (zs (l.take i)) = some (.exit (zs (cn (vl (l.take i))), ()))
 | 0, i, l, h, h1, h2, h3 => by omega
 | m + 1, 0, l, h, h1, h2, h3 => by
  simp only [z7f]
  simp [vl, z53]
 | m + 1, i + 1, l, h, h1, h2, h3 => by
  simp only [z7f]
  have hl : (zs (l.take (i + 1))).length = i + 1 := by rw [z1g, List.length_take]; omega
  have e4 : IntKind.i64.wrap (((i + 1 : Nat) : Int) - 1) = (i : Int) := by rw [w64 _ (by omega) (by omega)]; omega
  have e0 : (0 : Int) <= (i : Int) := by omega
  have e1 : (i : Int) < ((i + 1 : Nat) : Int) := by omega
  have e2 : (i : Int) <= ((i + 1 : Nat) : Int) := by omega
  have e3 : ((i + 1 : Nat) : Int) > 0 := by omega
  simp only [hl, e4, e0, e1, e2, e3, if_true, decide_true, Int.toNat_natCast, z6x]
  rw [getD_take _ _ _ (by omega)]
  by_cases h0 : l.getD i 0 = 0
  ·rw [if_pos (by rw [h0]; rfl), y83 (by omega) h0, List.drop_zero, yn1, List.take_take, Nat.min_eq_left (by omega)]
   exact w2w m i l h (by omega) h2 (by omega)
  ·rw [if_neg (fun e => h0 (by simpa using e)), <- y84 h (by omega) h0]
theorem yz5 {l : List Nat} (h : Dg l) (hs : l.length <= 8388608) : z7y fuel (zs l) = some (zs (cn (vl l))) := by
 unfold z7y
 have hf := y04
 have := w2w fuel l.length l h (by omega) hs (by omega)
 rw [List.take_length] at this
 rw [this]
end Go.Proofs.YtcdcoeofhnfjdabGreatDoor
namespace Go.Proofs.YtcdcoeofhnfjdabGreatDoor
open Go Vm
theorem w7b (a b : List Nat) (ha : Dg a) (hb : Dg b) (hs : a.length <= 4194304) : ∀ (m i d : Nat) (out : List Nat), i <= a.length -> a.length < m + i -> out.length = a.length -> Dg out -> d <= 1 -> (∀ j, i <= j -> out.getD j 0 = 0) ->
  ∃ d' out', z4f m (zs a) (zs b) (d : Int) (a.length : Int) (i : Int) (zs out) = some (.exit (zs out', ())) /\ d' <= 1 /\ Dg out' /\ out'.length = a.length /\
   vl out' + 1000000000 ^ i * (vl ((b.take a.length).drop i) + d) = vl out + 1000000000 ^ i * vl (a.drop i) + 1000000000 ^ a.length * d'
 | 0, i, d, out, h1, h2, h3, h4, h5, h6 => by omega
 | m + 1, i, d, out, h1, h2, h3, h4, h5, h6 => by
  simp only [z4f]
  by_cases hi : i < a.length
  ·have da := z54 ha i
   have db := z54 hb i
   have e0 : (0 : Int) <= (i : Int) := by omega
   have e1 : (i : Int) < (a.length : Int) := by omega
   have e5 : (i : Int) < (out.length : Int) := by omega
   have e4 : IntKind.i64.wrap ((i : Int) + 1) = ((i + 1 : Nat) : Int) := by rw [w64 _ (by omega) (by omega)]; omega
   simp only [z1g, Int.toNat_natCast, z6x, e0, e1, e5, if_true, decide_true, e4]
   have step : ∀ (y d1 v : Nat), y = (b.take a.length).getD i 0 -> d1 <= 1 -> v < 1000000000 -> v + d + y = a.getD i 0 + 1000000000 * d1 -> vl ((b.take a.length).drop i) = y + 1000000000 * vl ((b.take a.length).drop (i + 1)) ->
     ∃ d' out', z4f m (zs a) (zs b) (d1 : Int) (a.length : Int) ((i + 1 : Nat) : Int) (zs (out.set i v)) = some (.exit (zs out', ())) /\ d' <= 1 /\ Dg out' /\ out'.length = a.length /\
      vl out' + 1000000000 ^ i * (vl ((b.take a.length).drop i) + d) = vl out + 1000000000 ^ i * vl (a.drop i) + 1000000000 ^ a.length * d' := by
    intro y d1 v hy hd1 hv he hby
    obtain ⟨d', out', e, k1, k2, k3, k4⟩ := w7b a b ha hb hs m (i + 1) d1 (out.set i v) (by omega) (by omega) (by rw [List.length_set]; exact h3) (yh5 h4 hv) hd1
     (fun j hj => by rw [z5d _ _ _ _ _ (by omega)]; exact h6 j (by omega))
    refine ⟨d', out', e, k1, k2, k3, ?_⟩
    have hs := yb0 out i v (by omega)
    rw [h6 i (by omega)] at hs
    rw [hby, z75 a i hi]
    rw [z5s] at k4
    grind
   by_cases hib : i < b.length
   ·have e2 : (i : Int) < (b.length : Int) := by omega
    have hby : vl ((b.take a.length).drop i) = b.getD i 0 + 1000000000 * vl ((b.take a.length).drop (i + 1)) := by
     rw [z75 (b.take a.length) i (by rw [List.length_take]; omega), getD_take _ _ _ hi]
    have hy : b.getD i 0 = (b.take a.length).getD i 0 := (getD_take _ _ _ hi).symm
    simp (disch := omega) only [e2, if_true, decide_true, w64]
    by_cases hn : a.getD i 0 < d + b.getD i 0
    ·rw [if_pos (by simp only [decide_eq_true_eq]; omega), show ((a.getD i 0 : Nat) : Int) - (d : Int) - ((b.getD i 0 : Nat) : Int) + 1000000000 = ((a.getD i 0 + 1000000000 - d - b.getD i 0 : Nat) : Int) by omega, ye3 (by omega), zn7]
     exact step (b.getD i 0) 1 _ hy (by omega) (by omega) (by omega) hby
    ·rw [if_neg (by simp only [decide_eq_true_eq]; omega), show ((a.getD i 0 : Nat) : Int) - (d : Int) - ((b.getD i 0 : Nat) : Int) = ((a.getD i 0 - d - b.getD i 0 : Nat) : Int) by omega, ye3 (by omega), zn7]
     exact step (b.getD i 0) 0 _ hy (by omega) (by omega) (by omega) hby
   ·have e2 : ¬ (i : Int) < (b.length : Int) := by omega
    have hz : (b.take a.length).drop i = [] := List.drop_of_length_le (by rw [List.length_take]; omega)
    have hz' : (b.take a.length).drop (i + 1) = [] := List.drop_of_length_le (by rw [List.length_take]; omega)
    have hy : 0 = (b.take a.length).getD i 0 := by rw [List.getD_eq_getElem?_getD, List.getElem?_eq_none (by rw [List.length_take]; omega)]; rfl
    simp (disch := omega) only [e2, decide_false, Bool.false_eq_true, if_false, w64]
    by_cases hn : a.getD i 0 < d
    ·rw [if_pos (by simp only [decide_eq_true_eq]; omega), show ((a.getD i 0 : Nat) : Int) - (d : Int) + 1000000000 = ((a.getD i 0 + 1000000000 - d : Nat) : Int) by omega, ye3 (by omega), zn7]
     exact step 0 1 _ hy (by omega) (by omega) (by omega) (by rw [hz, hz']; rfl)
    ·rw [if_neg (by simp only [decide_eq_true_eq]; omega), show ((a.getD i 0 : Nat) : Int) - (d : Int) = ((a.getD i 0 - d : Nat) : Int) by omega, ye3 (by omega), zn7]
     exact step 0 0 _ hy (by omega) (by omega) (by omega) (by rw [hz, hz']; rfl)
  ·have e1 : ¬ (i : Int) < (a.length : Int) := by omega
   simp only [e1, decide_false, Bool.false_eq_true, if_false]
   refine ⟨d, out, rfl, h5, h4, h3, ?_⟩
   rw [List.drop_of_length_le (show a.length <= i by omega), List.drop_of_length_le (show (b.take a.length).length <= i by rw [List.length_take]; omega), show i = a.length by omega]
   simp [vl]
theorem ye0 (n j : Nat) : (List.replicate n 0).getD j 0 = 0 := by
 simp only [List.getD_eq_getElem?_getD, List.getElem?_replicate]; split <;> rfl
theorem wu8 {a b : Nat} (ha : Sz a) (h : b <= a) : zq6 fuel (zs (cn a)) (zs (cn b)) = some (zs (cn (a - b))) := by
 unfold zq6
 unfold Sz at ha
 have hf := y04
 have hl := yh1 h
 obtain ⟨d', out', e, k1, k2, k3, k4⟩ := w7b (cn a) (cn b) (y2m a) (y2m b) ha fuel 0 0 (List.replicate (cn a).length 0) (by omega) (by omega) (by simp) (w5w _) (by omega) (fun j _ => ye0 _ j)
 have e : z4f fuel (zs (cn a)) (zs (cn b)) 0 ((cn a).length : Int) 0 (zs (List.replicate (cn a).length 0)) = _ := e
 simp only [z1g, Int.toNat_natCast]
 rw [if_pos (by omega), if_pos (by omega), if_pos (by omega), w30, e]
 simp only [z1g]
 obtain ⟨j, e2, k5⟩ := ya9 fuel out'.length out' k2 (by omega) (by omega) (by omega)
 rw [e2]
 simp only [List.drop_zero, Nat.pow_zero, Nat.one_mul, List.take_of_length_le hl, y86, w2y, Nat.zero_add, Nat.add_zero] at k4
 have hlt := ym4 k2
 rw [k3] at hlt
 have hd : d' = 0 := by
  rcases Nat.eq_zero_or_pos d' with h0 | h0
  ·exact h0
  ·obtain rfl : d' = 1 := by omega
   omega
 subst hd
 rw [List.take_length] at k5
 show some ((zs out').take j) = _
 rw [yn1, k5, show vl out' = a - b by omega]
theorem y7n {x y : Nat} (hx : x < 1000000000) (hy : y < 1000000000) : x * y <= 999999998000000001 := by
 have := Nat.mul_le_mul (show x <= 999999999 by omega) (show y <= 999999999 by omega)
 omega
theorem yt0 (b : List Nat) (hb : Dg b) (x i : Nat) (hx : x < 1000000000) (hs : b.length <= 4194304) (hi : i <= 4194304) : ∀ (m k c : Nat) (out : List Nat), k <= b.length -> b.length < m + k -> i + b.length < out.length -> Dg out -> c < 1000000000 ->
  ∃ c' out', z8n m (i : Int) (x : Int) (c : Int) (zs b) (b.length : Int) (k : Int) (zs out) = some (.exit (((c' : Nat) : Int), zs out', ())) /\ c' < 1000000000 /\ Dg out' /\ out'.length = out.length /\
   (∀ j, i + b.length <= j -> out'.getD j 0 = out.getD j 0) /\ vl out' + 1000000000 ^ (i + b.length) * c' = vl out + 1000000000 ^ (i + k) * (x * vl (b.drop k) + c)
 | 0, k, c, out, h1, h2, h3, h4, h5 => by omega
 | m + 1, k, c, out, h1, h2, h3, h4, h5 => by
  simp only [z8n]
  by_cases hk : k < b.length
  ·have db := z54 hb k
   have dout := z54 h4 (i + k)
   have hp := y7n hx db
   have e0 : (0 : Int) <= (k : Int) := by omega
   have e1 : (k : Int) < (b.length : Int) := by omega
   have e6 : IntKind.i64.wrap ((i : Int) + (k : Int)) = ((i + k : Nat) : Int) := by rw [w64 _ (by omega) (by omega)]; omega
   have e5 : ((i + k : Nat) : Int) < (out.length : Int) := by omega
   have e7 : (0 : Int) <= ((i + k : Nat) : Int) := by omega
   have e4 : IntKind.i64.wrap ((k : Int) + 1) = ((k + 1 : Nat) : Int) := by rw [w64 _ (by omega) (by omega)]; omega
   simp only [z1g, Int.toNat_natCast, z6x, e0, e1, e6, e5, e7, if_true, decide_true, e4]
   simp (disch := omega) only [<- Int.natCast_mul, <- Int.natCast_add, w5g, ye3, w2r, w2t, zn7]
   obtain ⟨c', out', e, k1, k2, k3, k4, k5⟩ := yt0 b hb x i hx hs hi m (k + 1) ((x * b.getD k 0 + out.getD (i + k) 0 + c) / 1000000000) (out.set (i + k) ((x * b.getD k 0 + out.getD (i + k) 0 + c) % 1000000000)) (by omega) (by omega)
    (by rw [List.length_set]; exact h3) (yh5 h4 (Nat.mod_lt _ (by decide))) (by omega)
   refine ⟨c', out', e, k1, k2, by rw [k3, List.length_set], fun j hj => by rw [k4 j hj, z5d _ _ _ _ _ (by omega)], ?_⟩
   have hs := yb0 out (i + k) ((x * b.getD k 0 + out.getD (i + k) 0 + c) % 1000000000) (by omega)
   have := Nat.div_add_mod (x * b.getD k 0 + out.getD (i + k) 0 + c) 1000000000
   rw [z75 b k hk]
   rw [<- Nat.add_assoc i k 1, z5s] at k5
   generalize (x * b.getD k 0 + out.getD (i + k) 0 + c) % 1000000000 = r at *
   generalize (x * b.getD k 0 + out.getD (i + k) 0 + c) / 1000000000 = q at *
   grind
  ·have e1 : ¬ (k : Int) < (b.length : Int) := by omega
   simp only [e1, decide_false, Bool.false_eq_true, if_false]
   refine ⟨c, out, rfl, h5, h4, rfl, fun _ _ => rfl, ?_⟩
   rw [List.drop_of_length_le (by omega), show k = b.length by omega]
   simp [vl]
theorem w6o (a b : List Nat) (ha : Dg a) (hb : Dg b) (hsa : a.length <= 4194304) (hs : b.length <= 4194304) : ∀ (m i : Nat) (out : List Nat), i <= a.length -> a.length + 8388608 < m + i -> out.length = a.length + b.length -> Dg out -> (∀ j, i + b.length <= j -> out.getD j 0 = 0) ->
  ∃ out', z8m m (zs b) (zs a) (a.length : Int) (i : Int) (zs out) = some (.exit (zs out', ())) /\ Dg out' /\ out'.length = a.length + b.length /\
   vl out' = vl out + 1000000000 ^ i * (vl (a.drop i) * vl b)
 | 0, i, out, h1, h2, h3, h4, h5 => by omega
 | m + 1, i, out, h1, h2, h3, h4, h5 => by
  simp only [z8m]
  by_cases hi : i < a.length
  ·have da := z54 ha i
   have e0 : (0 : Int) <= (i : Int) := by omega
   have e1 : (i : Int) < (a.length : Int) := by omega
   have e6 : IntKind.i64.wrap ((i : Int) + (b.length : Int)) = ((i + b.length : Nat) : Int) := by rw [w64 _ (by omega) (by omega)]; omega
   have e7 : (0 : Int) <= ((i + b.length : Nat) : Int) := by omega
   have e4 : IntKind.i64.wrap ((i : Int) + 1) = ((i + 1 : Nat) : Int) := by rw [w64 _ (by omega) (by omega)]; omega
   obtain ⟨c', out1, e, k1, k2, k3, k4, k5⟩ := yt0 b hb (a.getD i 0) i da hs (by omega) m 0 0 out (by omega) (by omega) (by omega) h4 (by omega)
   have e : z8n m (i : Int) ((a.getD i 0 : Nat) : Int) 0 (zs b) (b.length : Int) 0 (zs out) = _ := e
   simp only [z1g, Int.toNat_natCast, z6x, e0, e1, if_true, decide_true, e4, e, e6, e7]
   rw [if_pos (by omega), ye3 (by omega), zn7]
   obtain ⟨out', g, j1, j2, j3⟩ := w6o a b ha hb hsa hs m (i + 1) (out1.set (i + b.length) c') (by omega) (by omega) (by rw [List.length_set]; omega) (yh5 k2 k1)
    (fun j hj => by rw [z5d _ _ _ _ _ (by omega), k4 j (by omega)]; exact h5 j (by omega))
   refine ⟨out', g, j1, j2, ?_⟩
   have hs2 := yb0 out1 (i + b.length) c' (by omega)
   rw [k4 _ (by omega), h5 _ (by omega)] at hs2
   rw [z75 a i hi]
   rw [z5s] at j3
   simp only [List.drop_zero, Nat.add_zero] at k5
   grind
  ·have e1 : ¬ (i : Int) < (a.length : Int) := by omega
   simp only [e1, decide_false, Bool.false_eq_true, if_false]
   refine ⟨out, rfl, h4, h3, ?_⟩
   rw [List.drop_of_length_le (by omega)]
   simp [vl]
theorem y7o {a b : Nat} (ha : Sz a) (hb : Sz b) : z4v fuel (zs (cn a)) (zs (cn b)) = some (zs (cn (a * b))) := by
 unfold z4v
 unfold Sz at ha hb
 have hf := y04
 obtain ⟨out', e, k1, k2, k3⟩ := w6o (cn a) (cn b) (y2m a) (y2m b) ha hb fuel 0 (List.replicate ((cn a).length + (cn b).length) 0) (by omega) (by omega) (by simp) (w5w _) (fun j _ => ye0 _ j)
 have e : z8m fuel (zs (cn b)) (zs (cn a)) ((cn a).length : Int) 0 (zs (List.replicate ((cn a).length + (cn b).length) 0)) = _ := e
 have e6 : IntKind.i64.wrap (((cn a).length : Int) + ((cn b).length : Int)) = (((cn a).length + (cn b).length : Nat) : Int) := by rw [w64 _ (by omega) (by omega)]; omega
 simp only [z1g, e6, Int.toNat_natCast]
 rw [if_pos (by omega), if_pos (by omega), if_pos (by omega), w30, e]
 simp only [z1g]
 obtain ⟨j, e2, k5⟩ := ya8 fuel out'.length out' k1 (by omega) (by omega) (by omega)
 rw [e2]
 rw [List.take_length] at k5
 simp only [w2y, Nat.pow_zero, List.drop_zero, y86, Nat.zero_add, Nat.one_mul] at k3
 show some ((zs out').take j) = _
 rw [yn1, k5, k3]
theorem yt5 (a : List Nat) (ha : Dg a) (hs : a.length <= 8388608) (d : Nat) (h0 : 0 < d) (hd : d < 1000000000) : ∀ (m i r : Nat) (out : List Nat), i <= a.length -> i < m -> out.length = a.length -> Dg out -> r < d -> (∀ j, j < i -> out.getD j 0 = 0) ->
  ∃ r' out', z5r m (zs a) (d : Int) (r : Int) ((i : Int) - 1) (zs out) = some (.exit (((r' : Nat) : Int), zs out', ())) /\ Dg out' /\ out'.length = a.length /\ r' < d /\
   vl out' * d + r' = vl out * d + r * 1000000000 ^ i + vl (a.take i)
 | 0, i, r, out, h1, h2, h3, h4, h5, h6 => by omega
 | m + 1, 0, r, out, h1, h2, h3, h4, h5, h6 => by
  simp only [z5r]
  exact ⟨r, out, by simp, h4, h3, h5, by simp [vl]⟩
 | m + 1, i + 1, r, out, h1, h2, h3, h4, h5, h6 => by
  simp only [z5r]
  have da := z54 ha i
  have hi : ((i + 1 : Nat) : Int) - 1 = (i : Int) := by omega
  have e0 : (0 : Int) <= (i : Int) := by omega
  have e1 : (i : Int) < (a.length : Int) := by omega
  have e2 : (i : Int) < (out.length : Int) := by omega
  have e3 : IntKind.u64.wrap (d : Int) = (d : Int) := w5g (by omega)
  have e4 : ¬ ((d : Int) = 0) := by omega
  have hw : IntKind.i64.wrap ((i : Int) - 1) = (i : Int) - 1 := w64 _ (by omega) (by omega)
  have hq : (r * 1000000000 + a.getD i 0) / d < 1000000000 := by
   rw [Nat.div_lt_iff_lt_mul h0]
   have := Nat.mul_le_mul_right 1000000000 (show r + 1 <= d by omega)
   omega
  have hB : ((1000000000 : Int)) = ((1000000000 : Nat) : Int) := rfl
  simp only [hi, z1g, Int.toNat_natCast, z6x, e0, e1, e2, e3, e4, if_true, if_false, decide_true, hw]
  rw [hB]
  simp (disch := omega) only [<- Int.natCast_mul, <- Int.natCast_add, w5g, ye3, wr1, v0e]
  rw [zn7]
  obtain ⟨r', out', e, k1, k2, k3, k4⟩ := yt5 a ha hs d h0 hd m i ((r * 1000000000 + a.getD i 0) % d) (out.set i ((r * 1000000000 + a.getD i 0) / d)) (by omega) (by omega) (by rw [List.length_set]; exact h3) (yh5 h4 hq) (Nat.mod_lt _ h0)
   (fun j hj => by rw [z5d _ _ _ _ _ (by omega)]; exact h6 j (by omega))
  refine ⟨r', out', e, k1, k2, k3, ?_⟩
  have hs := yb0 out i ((r * 1000000000 + a.getD i 0) / d) (by omega)
  rw [h6 i (by omega)] at hs
  have ht : vl (a.take (i + 1)) = vl (a.take i) + 1000000000 ^ i * a.getD i 0 := by
   rw [List.take_succ_eq_append_getElem (by omega), zf5, List.length_take, Nat.min_eq_left (by omega), z3d a i 0 (by omega)]; simp [vl]
  have := Nat.div_add_mod (r * 1000000000 + a.getD i 0) d
  rw [k4, ht, z5s]
  generalize (r * 1000000000 + a.getD i 0) % d = r1 at *
  generalize (r * 1000000000 + a.getD i 0) / d = q1 at *
  grind
theorem w77 {l : List Nat} {d : Nat} (hl : Dg l) (hs : l.length <= 8388608) (h0 : 0 < d) (hd : d < 1000000000) :
  ze0 fuel (zs l) (d : Int) = some (zs (cn (vl l / d)), zs (cn (vl l % d))) := by
 unfold ze0
 have hf := y04
 obtain ⟨r', out', e, k1, k2, k3, k4⟩ := yt5 l hl hs d h0 hd fuel l.length 0 (List.replicate l.length 0) (by omega) (by omega) (by simp) (w5w _) h0 (fun j _ => ye0 _ j)
 have e : z5r fuel (zs l) (d : Int) 0 ((l.length : Int) - 1) (zs (List.replicate l.length 0)) = _ := e
 simp only [z1g, Int.toNat_natCast]
 rw [if_pos (by omega), if_pos (by omega), if_pos (by omega), w30, w64 _ (by omega) (by omega), e]
 simp only
 rw [ye3 (by omega), wv4, yz5 k1 (by omega), yz5 (zq3.2 ⟨by omega, y4o⟩) (by simp)]
 simp only [w2y, Nat.zero_mul, Nat.zero_add, Nat.add_zero, List.take_length] at k4
 have h1 : vl l / d = vl out' := by
  rw [<- k4, Nat.mul_comm, Nat.mul_add_div h0, Nat.div_eq_of_lt k3, Nat.add_zero]
 have h2 : vl l % d = r' := by
  rw [<- k4, Nat.mul_comm, Nat.mul_add_mod, Nat.mod_eq_of_lt k3]
 rw [h1, h2]
 simp [vl]
end Go.Proofs.YtcdcoeofhnfjdabGreatDoor
namespace Go.Proofs.YtcdcoeofhnfjdabGreatDoor
open Go Vm
theorem wx2 {v1 v2 vr P top u2 ur q r v R : Nat} (hv : v = vr + P * (v2 + 1000000000 * v1)) (hR : R = ur + P * (u2 + 1000000000 * top)) (hur : ur < P) (ht : q * v1 + r = top) (hc : r * 1000000000 + u2 < q * v2) : R < q * v := by
 have h1 : q * v = q * vr + P * (q * v2 + 1000000000 * (q * v1)) := by rw [hv]; grind
 have h2 : P * (u2 + 1000000000 * top + 1) <= P * (q * v2 + 1000000000 * (q * v1)) := Nat.mul_le_mul_left _ (by omega)
 rw [Nat.mul_succ] at h2
 omega
theorem w67 {v1 v2 vr P top u2 ur q r v R : Nat} (hv : v = vr + P * (v2 + 1000000000 * v1)) (hR : R = ur + P * (u2 + 1000000000 * top)) (hvr : vr < P) (h1 : 1 <= v1) (hq : q < 1000000000) (ht : q * v1 + r = top) (hc : q * v2 <= r * 1000000000 + u2) : q * v <= R + v := by
 have h2 : q * v = q * vr + P * (q * v2 + 1000000000 * (q * v1)) := by rw [hv]; grind
 have h3 : P * (q * v2 + 1000000000 * (q * v1)) <= P * (u2 + 1000000000 * top) := Nat.mul_le_mul_left _ (by omega)
 have h4 : q * vr <= P * q := by rw [Nat.mul_comm]; exact Nat.mul_le_mul_right _ (by omega)
 have h5 : P * q <= P * (v2 + 1000000000 * v1) := Nat.mul_le_mul_left _ (by omega)
 omega
theorem wx3 {v1 v2 vr P top u2 ur v R : Nat} (hv : v = vr + P * (v2 + 1000000000 * v1)) (hR : R = ur + P * (u2 + 1000000000 * top)) (hvr : vr < P) (hv2 : v2 < 1000000000) (h : R < 1000000000 * v) : top < 1000000000 * v1 + 1000000000 := by
 apply Nat.lt_of_not_le
 intro hle
 have h1 : P * (1000000000 * (1000000000 * v1 + 1000000000)) <= P * (u2 + 1000000000 * top) := Nat.mul_le_mul_left _ (by omega)
 have h2 : P * (v2 + 1000000000 * v1 + 1) <= P * (1000000000 * v1 + 1000000000) := Nat.mul_le_mul_left _ (by omega)
 rw [Nat.mul_succ] at h2
 have h3 : P * (1000000000 * (1000000000 * v1 + 1000000000)) = 1000000000 * (P * (1000000000 * v1 + 1000000000)) := by rw [Nat.mul_left_comm]
 omega
theorem w66 (u v : List Nat) (hu : Dg u) (hv : Dg v) (n k : Nat) (hn : n = v.length) (h2 : 2 <= n) (hk : k + n < u.length) (hs : u.length <= 8388608) (V R vr ur P top : Nat) (h1 : 1 <= v.getD (n - 1) 0)
  (eV : V = vr + P * (v.getD (n - 2) 0 + 1000000000 * v.getD (n - 1) 0)) (eR : R = ur + P * (u.getD (k + n - 2) 0 + 1000000000 * top)) (hvr : vr < P) (hur : ur < P) (htop : top < 1000000000 * v.getD (n - 1) 0 + 1000000000) (hRV : R < 1000000000 * V) :
  ∀ (m q r : Nat), q * v.getD (n - 1) 0 + r = top -> r < 1000000000 -> 1000000000 < m + r -> R < (q + 1) * V ->
  ∃ q' : Nat, z6b m (n : Int) (k : Int) (q : Int) (r : Int) (zs u) (zs v) = some (.exit ((q' : Int), zs u, zs v, ())) /\ q' < 1000000000 /\ R < (q' + 1) * V /\ q' * V <= R + V
 | 0, q, r, ht, hr, hm, hq => by omega
 | m + 1, q, r, ht, hr, hm, hq => by
  simp only [z6b]
  have d1 := z54 hv (n - 1)
  have d2 := z54 hv (n - 2)
  have d3 := z54 hu (k + n - 2)
  have hqt : q <= top := by
   have := Nat.mul_le_mul_left q h1
   omega
  have e1 : IntKind.i64.wrap ((n : Int) - 2) = ((n - 2 : Nat) : Int) := by rw [w64 _ (by omega) (by omega)]; omega
  have e2 : IntKind.i64.wrap ((n : Int) - 1) = ((n - 1 : Nat) : Int) := by rw [w64 _ (by omega) (by omega)]; omega
  have e3 : IntKind.i64.wrap ((IntKind.i64.wrap ((k : Int) + (n : Int))) - 2) = ((k + n - 2 : Nat) : Int) := by rw [w64 ((k : Int) + (n : Int)) (by omega) (by omega), w64 _ (by omega) (by omega)]; omega
  have c1 : (0 : Int) <= ((n - 2 : Nat) : Int) := by omega
  have c2 : ((n - 2 : Nat) : Int) < (v.length : Int) := by omega
  have c3 : (0 : Int) <= ((n - 1 : Nat) : Int) := by omega
  have c4 : ((n - 1 : Nat) : Int) < (v.length : Int) := by omega
  have c5 : (0 : Int) <= ((k + n - 2 : Nat) : Int) := by omega
  have c6 : ((k + n - 2 : Nat) : Int) < (u.length : Int) := by omega
  have hB : ((1000000000 : Int)) = ((1000000000 : Nat) : Int) := rfl
  simp only [e1, e2, e3, z1g, Int.toNat_natCast, z6x, c1, c2, c3, c4, c5, c6, if_true]
  -- one step down
  have down : R < q * V -> ∃ q' : Nat, (if decide (IntKind.u64.wrap ((r : Int) + (IntKind.u64.wrap ((v.getD (n - 1) 0 : Nat) : Int))) >= 1000000000) = true then some (.exit ((IntKind.u64.wrap ((q : Int) - 1)), zs u, zs v, ()))
        else z6b m (n : Int) (k : Int) (IntKind.u64.wrap ((q : Int) - 1)) (IntKind.u64.wrap ((r : Int) + (IntKind.u64.wrap ((v.getD (n - 1) 0 : Nat) : Int)))) (zs u) (zs v)) = some (LR.exit (x := zs1) (r := zs0) ((q' : Int), zs u, zs v, ())) /\
     q' < 1000000000 /\ R < (q' + 1) * V /\ q' * V <= R + V := by
   intro hlt
   have hq0 : q ≠ 0 := fun e => by rw [e, Nat.zero_mul] at hlt; omega
   obtain ⟨p, rfl⟩ : ∃ p, q = p + 1 := ⟨q - 1, by omega⟩
   have ht' : p * v.getD (n - 1) 0 + (r + v.getD (n - 1) 0) = top := by rw [<- ht, Nat.succ_mul]; omega
   have w1 : IntKind.u64.wrap (((p + 1 : Nat) : Int) - 1) = (p : Int) := by rw [show ((p + 1 : Nat) : Int) - 1 = (p : Int) by omega, w5g (by omega)]
   rw [w1]
   simp (disch := omega) only [w5g, <- Int.natCast_add]
   by_cases hge : 1000000000 <= r + v.getD (n - 1) 0
   ·rw [if_pos (by simp only [decide_eq_true_eq]; omega)]
    have hp : p < 1000000000 := by
     apply Nat.lt_of_not_le
     intro hle
     have := Nat.mul_le_mul_right (v.getD (n - 1) 0) hle
     omega
    refine ⟨p, rfl, hp, hlt, w67 eV eR hvr h1 hp ht' ?_⟩
    have := y7n hp d2
    have : 1000000000 * 1000000000 <= (r + v.getD (n - 1) 0) * 1000000000 := Nat.mul_le_mul_right _ hge
    omega
   ·rw [if_neg (by simp only [decide_eq_true_eq]; omega)]
    exact w66 u v hu hv n k hn h2 hk hs V R vr ur P top h1 eV eR hvr hur htop hRV m p (r + v.getD (n - 1) 0) ht' (by omega) (by omega) hlt
  by_cases hqB : 1000000000 <= q
  ·rw [if_neg (by simp only [decide_eq_false_iff_not]; omega)]
   refine down ?_
   exact Nat.lt_of_lt_of_le hRV (Nat.mul_le_mul_right _ hqB)
  ·rw [if_pos (by simp only [decide_eq_false_iff_not]; omega), hB]
   have hp := y7n (show q < 1000000000 by omega) d2
   simp (disch := omega) only [w5g, <- Int.natCast_add, <- Int.natCast_mul]
   by_cases hc : r * 1000000000 + u.getD (k + n - 2) 0 < q * v.getD (n - 2) 0
   ·rw [if_pos (by simp only [decide_eq_true_eq]; omega)]
    have := down (wx2 eV eR hur ht hc)
    rw [hB] at this
    simp (disch := omega) only [w5g, <- Int.natCast_add] at this
    exact this
   ·rw [if_neg (by simp only [decide_eq_true_eq]; omega)]
    exact ⟨q, rfl, by omega, hq, w67 eV eR hvr h1 (by omega) ht (by omega)⟩
end Go.Proofs.YtcdcoeofhnfjdabGreatDoor
namespace Go.Proofs.YtcdcoeofhnfjdabGreatDoor
open Go Vm
theorem take_same {a b : List Nat} {k : Nat} (hl : a.length = b.length) (h : ∀ j, j < k -> a.getD j 0 = b.getD j 0) : a.take k = b.take k := by
 apply List.ext_getElem
 ·simp [hl]
 ·intro i h1 h2
  simp only [List.length_take] at h1 h2
  rw [List.getElem_take, List.getElem_take, <- z3d a i 0 (by omega), <- z3d b i 0 (by omega)]
  exact h i (by omega)
theorem w1f {a b : List Nat} {k : Nat} (hl : a.length = b.length) (h : ∀ j, k <= j -> a.getD j 0 = b.getD j 0) : a.drop k = b.drop k := by
 apply List.ext_getElem
 ·simp [hl]
 ·intro i h1 h2
  simp only [List.length_drop] at h1 h2
  rw [List.getElem_drop, List.getElem_drop, <- z3d a (k + i) 0 (by omega), <- z3d b (k + i) 0 (by omega)]
  exact h (k + i) (by omega)
theorem ys7 (v : List Nat) (hv : Dg v) (q : Nat) (hq : q < 1000000000) (k : Nat) (hs : k + v.length < 8388608) : ∀ (m i d c : Nat) (u : List Nat), i <= v.length + 1 -> v.length + 1 < m + i -> k + v.length < u.length -> Dg u -> d <= 1 -> c < 1000000000 -> (i = v.length + 1 -> c = 0) ->
  ∃ d' u', z13 m (k : Int) (q : Int) (d : Int) (c : Int) (i : Int) (zs u) (zs v) = some (.exit (((d' : Nat) : Int), zs u', zs v, ())) /\ d' <= 1 /\ Dg u' /\ u'.length = u.length /\ (∀ j, j < k + i -> u'.getD j 0 = u.getD j 0) /\ (∀ j, k + v.length < j -> u'.getD j 0 = u.getD j 0) /\
   vl u' + 1000000000 ^ (k + i) * (q * vl (v.drop i) + c + d) = vl u + 1000000000 ^ (k + v.length + 1) * d'
 | 0, i, d, c, u, h1, h2, h3, h4, h5, h6, h7 => by omega
 | m + 1, i, d, c, u, h1, h2, h3, h4, h5, h6, h7 => by
  simp only [z13]
  by_cases hi : i <= v.length
  ·have du := z54 h4 (k + i)
   have e0 : (0 : Int) <= (i : Int) := by omega
   have e1 : (i : Int) <= (v.length : Int) := by omega
   have e6 : IntKind.i64.wrap ((k : Int) + (i : Int)) = ((k + i : Nat) : Int) := by rw [w64 _ (by omega) (by omega)]; omega
   have e5 : ((k + i : Nat) : Int) < (u.length : Int) := by omega
   have e7 : (0 : Int) <= ((k + i : Nat) : Int) := by omega
   have e4 : IntKind.i64.wrap ((i : Int) + 1) = ((i + 1 : Nat) : Int) := by rw [w64 _ (by omega) (by omega)]; omega
   simp only [z1g, Int.toNat_natCast, z6x, e0, e1, e6, e5, e7, if_true, decide_true, e4]
   have step : ∀ (t c1 r d1 x : Nat), c1 < 1000000000 -> r < 1000000000 -> 1000000000 * c1 + r = t -> d1 <= 1 -> x < 1000000000 -> x + r + d = u.getD (k + i) 0 + 1000000000 * d1 -> (i = v.length -> c1 = 0) -> q * vl (v.drop i) + c = t + 1000000000 * (q * vl (v.drop (i + 1))) ->
     ∃ d' u', z13 m (k : Int) (q : Int) (d1 : Int) (c1 : Int) ((i + 1 : Nat) : Int) (zs (u.set (k + i) x)) (zs v) = some (.exit (((d' : Nat) : Int), zs u', zs v, ())) /\ d' <= 1 /\ Dg u' /\ u'.length = u.length /\ (∀ j, j < k + i -> u'.getD j 0 = u.getD j 0) /\ (∀ j, k + v.length < j -> u'.getD j 0 = u.getD j 0) /\
      vl u' + 1000000000 ^ (k + i) * (q * vl (v.drop i) + c + d) = vl u + 1000000000 ^ (k + v.length + 1) * d' := by
    intro t c1 r d1 x hc1 hr ht hd1 hx he hz hq'
    obtain ⟨d', u', e, k1, k2, k3, k4, k5, k6⟩ := ys7 v hv q hq k hs m (i + 1) d1 c1 (u.set (k + i) x) (by omega) (by omega) (by rw [List.length_set]; exact h3) (yh5 h4 hx) hd1 hc1 (fun h => hz (by omega))
    refine ⟨d', u', e, k1, k2, by rw [k3, List.length_set], fun j hj => by rw [k4 j (by omega), z5d _ _ _ _ _ (by omega)], fun j hj => by rw [k5 j hj, z5d _ _ _ _ _ (by omega)], ?_⟩
    have hs := yb0 u (k + i) x (by omega)
    rw [<- Nat.add_assoc k i 1, z5s] at k6
    rw [hq']
    grind
   by_cases hib : i < v.length
   ·have dv := z54 hv i
    have hp := y7n hq dv
    have e2 : (i : Int) < (v.length : Int) := by omega
    have hV : q * vl (v.drop i) + c = (c + q * v.getD i 0) + 1000000000 * (q * vl (v.drop (i + 1))) := by rw [z75 v i hib]; grind
    simp (disch := omega) only [e2, if_true, decide_true, <- Int.natCast_mul, <- Int.natCast_add, w5g, w2r, w2t, w64]
    have hdm := Nat.div_add_mod (c + q * v.getD i 0) 1000000000
    generalize hr : (c + q * v.getD i 0) % 1000000000 = r at *
    generalize hc1 : (c + q * v.getD i 0) / 1000000000 = c1 at *
    have hr' : r < 1000000000 := by omega
    have hc1' : c1 < 1000000000 := by omega
    by_cases hn : u.getD (k + i) 0 < r + d
    ·rw [if_pos (by simp only [decide_eq_true_eq]; omega), show ((u.getD (k + i) 0 : Nat) : Int) - (r : Int) - (d : Int) + 1000000000 = ((u.getD (k + i) 0 + 1000000000 - r - d : Nat) : Int) by omega, ye3 (by omega), zn7]
     exact step _ c1 r 1 _ hc1' hr' hdm (by omega) (by omega) (by omega) (by omega) hV
    ·rw [if_neg (by simp only [decide_eq_true_eq]; omega), show ((u.getD (k + i) 0 : Nat) : Int) - (r : Int) - (d : Int) = ((u.getD (k + i) 0 - r - d : Nat) : Int) by omega, ye3 (by omega), zn7]
     exact step _ c1 r 0 _ hc1' hr' hdm (by omega) (by omega) (by omega) (by omega) hV
   ·have e2 : ¬ (i : Int) < (v.length : Int) := by omega
    have hV : q * vl (v.drop i) + c = c + 1000000000 * (q * vl (v.drop (i + 1))) := by
     rw [List.drop_of_length_le (show v.length <= i by omega), List.drop_of_length_le (show v.length <= i + 1 by omega)]; simp [vl]
    simp (disch := omega) only [e2, decide_false, Bool.false_eq_true, if_false, w5g, w2r, w2t, w64]
    rw [Nat.mod_eq_of_lt h6, Nat.div_eq_of_lt h6]
    by_cases hn : u.getD (k + i) 0 < c + d
    ·rw [if_pos (by simp only [decide_eq_true_eq]; omega), show ((u.getD (k + i) 0 : Nat) : Int) - (c : Int) - (d : Int) + 1000000000 = ((u.getD (k + i) 0 + 1000000000 - c - d : Nat) : Int) by omega, ye3 (by omega), zn7]
     exact step _ 0 c 1 _ (by omega) h6 (by omega) (by omega) (by omega) (by omega) (by omega) hV
    ·rw [if_neg (by simp only [decide_eq_true_eq]; omega), show ((u.getD (k + i) 0 : Nat) : Int) - (c : Int) - (d : Int) = ((u.getD (k + i) 0 - c - d : Nat) : Int) by omega, ye3 (by omega), zn7]
     exact step _ 0 c 0 _ (by omega) h6 (by omega) (by omega) (by omega) (by omega) (by omega) hV
  ·have e1 : ¬ (i : Int) <= (v.length : Int) := by omega
   simp only [z1g, e1, decide_false, Bool.false_eq_true, if_false]
   obtain rfl : i = v.length + 1 := by omega
   refine ⟨d, u, rfl, h5, h4, rfl, fun _ _ => rfl, fun _ _ => rfl, ?_⟩
   rw [List.drop_of_length_le (by omega), h7 rfl]
   simp [vl, Nat.add_assoc]
theorem w27 (v : List Nat) (hv : Dg v) (k : Nat) (hs : k + v.length < 8388608) : ∀ (m i c : Nat) (u : List Nat), i <= v.length + 1 -> v.length + 1 < m + i -> k + v.length < u.length -> Dg u -> c <= 1 ->
  ∃ c' u', z1u m (k : Int) (c : Int) (i : Int) (zs u) (zs v) = some (.exit (zs u', zs v, ())) /\ c' <= 1 /\ Dg u' /\ u'.length = u.length /\ (∀ j, j < k + i -> u'.getD j 0 = u.getD j 0) /\ (∀ j, k + v.length < j -> u'.getD j 0 = u.getD j 0) /\
   vl u' + 1000000000 ^ (k + v.length + 1) * c' = vl u + 1000000000 ^ (k + i) * (vl (v.drop i) + c)
 | 0, i, c, u, h1, h2, h3, h4, h5 => by omega
 | m + 1, i, c, u, h1, h2, h3, h4, h5 => by
  simp only [z1u]
  by_cases hi : i <= v.length
  ·have du := z54 h4 (k + i)
   have dv := z54 hv i
   have e0 : (0 : Int) <= (i : Int) := by omega
   have e1 : (i : Int) <= (v.length : Int) := by omega
   have e6 : IntKind.i64.wrap ((k : Int) + (i : Int)) = ((k + i : Nat) : Int) := by rw [w64 _ (by omega) (by omega)]; omega
   have e5 : ((k + i : Nat) : Int) < (u.length : Int) := by omega
   have e7 : (0 : Int) <= ((k + i : Nat) : Int) := by omega
   have e4 : IntKind.i64.wrap ((i : Int) + 1) = ((i + 1 : Nat) : Int) := by rw [w64 _ (by omega) (by omega)]; omega
   simp only [z1g, Int.toNat_natCast, z6x, e0, e1, e6, e5, e7, if_true, decide_true, e4]
   have step : ∀ (t : Nat), t < 2000000000 -> vl (v.drop i) + c + u.getD (k + i) 0 = t + 1000000000 * vl (v.drop (i + 1)) ->
     ∃ c' u', z1u m (k : Int) ((t / 1000000000 : Nat) : Int) ((i + 1 : Nat) : Int) (zs (u.set (k + i) (t % 1000000000))) (zs v) = some (.exit (zs u', zs v, ())) /\ c' <= 1 /\ Dg u' /\ u'.length = u.length /\ (∀ j, j < k + i -> u'.getD j 0 = u.getD j 0) /\ (∀ j, k + v.length < j -> u'.getD j 0 = u.getD j 0) /\
      vl u' + 1000000000 ^ (k + v.length + 1) * c' = vl u + 1000000000 ^ (k + i) * (vl (v.drop i) + c) := by
    intro t ht he
    obtain ⟨c', u', e, k1, k2, k3, k4, k5, k6⟩ := w27 v hv k hs m (i + 1) (t / 1000000000) (u.set (k + i) (t % 1000000000)) (by omega) (by omega) (by rw [List.length_set]; exact h3) (yh5 h4 (Nat.mod_lt _ (by decide))) (by omega)
    refine ⟨c', u', e, k1, k2, by rw [k3, List.length_set], fun j hj => by rw [k4 j (by omega), z5d _ _ _ _ _ (by omega)], fun j hj => by rw [k5 j hj, z5d _ _ _ _ _ (by omega)], ?_⟩
    have hs := yb0 u (k + i) (t % 1000000000) (by omega)
    have hdm := Nat.div_add_mod t 1000000000
    rw [<- Nat.add_assoc k i 1, z5s] at k6
    generalize t % 1000000000 = r at *
    generalize t / 1000000000 = q at *
    grind
   by_cases hib : i < v.length
   ·have e2 : (i : Int) < (v.length : Int) := by omega
    simp (disch := omega) only [e2, if_true, decide_true, <- Int.natCast_add, ye3, w2r, w2t, zn7]
    exact step (u.getD (k + i) 0 + c + v.getD i 0) (by omega) (by rw [z75 v i hib]; omega)
   ·have e2 : ¬ (i : Int) < (v.length : Int) := by omega
    simp (disch := omega) only [e2, decide_false, Bool.false_eq_true, if_false, <- Int.natCast_add, ye3, w2r, w2t, zn7]
    exact step (u.getD (k + i) 0 + c) (by omega) (by rw [List.drop_of_length_le (show v.length <= i by omega), List.drop_of_length_le (show v.length <= i + 1 by omega)]; simp only [vl]; omega)
  ·have e1 : ¬ (i : Int) <= (v.length : Int) := by omega
   simp only [z1g, e1, decide_false, Bool.false_eq_true, if_false]
   obtain rfl : i = v.length + 1 := by omega
   refine ⟨c, u, rfl, h5, h4, rfl, fun _ _ => rfl, fun _ _ => rfl, ?_⟩
   rw [List.drop_of_length_le (by omega)]
   simp [vl, Nat.add_assoc]
end Go.Proofs.YtcdcoeofhnfjdabGreatDoor
namespace Go.Proofs.YtcdcoeofhnfjdabGreatDoor
open Go Vm
theorem wc4 {v1 v2 vr P top u2 ur q v R : Nat} (hv : v = vr + P * (v2 + 1000000000 * v1)) (hR : R = ur + P * (u2 + 1000000000 * top)) (hur : ur < P) (hu2 : u2 < 1000000000) (ht : top < q * v1) : R < q * v := by
 have h1 : q * v = q * vr + P * (q * v2 + 1000000000 * (q * v1)) := by rw [hv]; grind
 have h2 : P * (u2 + 1000000000 * top + 1) <= P * (q * v2 + 1000000000 * (q * v1)) := Nat.mul_le_mul_left _ (by omega)
 rw [Nat.mul_succ] at h2
 omega
theorem window {u : List Nat} {k p : Nat} (hl : k + p + 2 < u.length) (hR : vl (u.drop k) < 1000000000 ^ (p + 3)) :
  vl (u.drop (k + p + 3)) = 0 /\ vl (u.drop k) = vl ((u.drop k).take p) + 1000000000 ^ p * (u.getD (k + p) 0 + 1000000000 * (u.getD (k + p + 2) 0 * 1000000000 + u.getD (k + p + 1) 0)) := by
 have hl' : (u.drop k).length = u.length - k := List.length_drop
 have h1 := zo5 (u.drop k) p (by omega)
 have h3 := zo5 (u.drop k) (p + 3) (by omega)
 rw [List.drop_drop] at h1 h3
 have hz : vl (u.drop (k + (p + 3))) = 0 := by
  rcases Nat.eq_zero_or_pos (vl (u.drop (k + (p + 3)))) with h | h
  ·exact h
  ·have := Nat.mul_le_mul_left (1000000000 ^ (p + 3)) h
   omega
 refine ⟨hz, ?_⟩
 rw [z75 u (k + p) (by omega), z75 u (k + p + 1) (by omega), z75 u (k + p + 1 + 1) (by omega), show k + p + 1 + 1 = k + p + 2 from rfl, show k + p + 2 + 1 = k + (p + 3) by omega, hz] at h1
 rw [h1]
 congr 2
 omega
theorem w5z (v : List Nat) (hv : Dg v) (p : Nat) (hp : v.length = p + 2) (htop : 1 <= v.getD (p + 1) 0) (L : Nat) (hL : L <= 8388600) (hpL : p + 2 < L) : ∀ (m i : Nat) (u out : List Nat), i <= L - (p + 2) -> 1010000000 < m -> i + 1010000000 < m -> u.length = L -> out.length = L - (p + 2) -> Dg u -> Dg out -> vl (u.drop i) < vl v -> (∀ j, j < i -> out.getD j 0 = 0) ->
  ∃ u' out', z5f m ((p + 2 : Nat) : Int) ((i : Int) - 1) (zs u) (zs v) (zs out) = some (.exit (zs u', zs out', zs v, ())) /\ Dg u' /\ Dg out' /\ u'.length = L /\ out'.length = L - (p + 2) /\ vl u' < vl v /\ vl out' * vl v + vl u' = vl out * vl v + vl u
 | 0, i, u, out, h1, h2, h3, h4, h5, h6, h7, h8, h9 => by omega
 | m + 1, 0, u, out, h1, h2, h3, h4, h5, h6, h7, h8, h9 => by
  simp only [z5f]
  exact ⟨u, out, by simp, h6, h7, h4, h5, h8, rfl⟩
 | m + 1, k + 1, u, out, h1, h2, h3, h4, h5, h6, h7, h8, h9 => by
  simp only [z5f]
  have hvl := ym4 hv
  rw [hp] at hvl
  have hR : vl (u.drop k) < 1000000000 * vl v := by
   rw [z75 u k (by omega)]
   have := z54 h6 k
   omega
  have hRB : vl (u.drop k) < 1000000000 ^ (p + 3) := by rw [show p + 3 = p + 2 + 1 from rfl, z5s]; omega
  obtain ⟨hz, hW⟩ := window (u := u) (k := k) (p := p) (by omega) hRB
  have hV : vl v = vl (v.take p) + 1000000000 ^ p * (v.getD p 0 + 1000000000 * v.getD (p + 1) 0) := by
   have := zo5 v p (by omega)
   rwa [z75 v p (by omega), z75 v (p + 1) (by omega), List.drop_of_length_le (show v.length <= p + 1 + 1 by omega), vl, Nat.mul_zero, Nat.add_zero] at this
  have hvr : vl (v.take p) < 1000000000 ^ p := by
   have := ym4 (yh6 hv p)
   rwa [List.length_take, Nat.min_eq_left (by omega)] at this
  have hur : vl ((u.drop k).take p) < 1000000000 ^ p := by
   have := ym4 (yh6 (w46 h6 k) p)
   rwa [List.length_take, List.length_drop, Nat.min_eq_left (by omega)] at this
  have d0 := z54 h6 (k + p + 1)
  have d1 := z54 h6 (k + p + 2)
  have d2 := z54 hv (p + 1)
  have d3 := z54 hv p
  have e1 : IntKind.i64.wrap ((k : Int) + ((p + 2 : Nat) : Int)) = ((k + p + 2 : Nat) : Int) := by rw [w64 _ (by omega) (by omega)]; omega
  have e2 : IntKind.i64.wrap (((k + p + 2 : Nat) : Int) - 1) = ((k + p + 1 : Nat) : Int) := by rw [w64 _ (by omega) (by omega)]; omega
  have e3 : IntKind.i64.wrap (((p + 2 : Nat) : Int) - 1) = ((p + 1 : Nat) : Int) := by rw [w64 _ (by omega) (by omega)]; omega
  have e4 : IntKind.i64.wrap ((k : Int) - 1) = (k : Int) - 1 := w64 _ (by omega) (by omega)
  have hi : ((k + 1 : Nat) : Int) - 1 = (k : Int) := by omega
  have e0 : (0 : Int) <= (k : Int) := by omega
  have c1 : (0 : Int) <= ((k + p + 2 : Nat) : Int) := by omega
  have c2 : ((k + p + 2 : Nat) : Int) < (u.length : Int) := by omega
  have c3 : (0 : Int) <= ((k + p + 1 : Nat) : Int) := by omega
  have c4 : ((k + p + 1 : Nat) : Int) < (u.length : Int) := by omega
  have c5 : (0 : Int) <= ((p + 1 : Nat) : Int) := by omega
  have c6 : ((p + 1 : Nat) : Int) < (v.length : Int) := by omega
  have c7 : ¬ (((v.getD (p + 1) 0 : Nat) : Int) = 0) := by omega
  have c8 : IntKind.u64.wrap ((v.getD (p + 1) 0 : Nat) : Int) = ((v.getD (p + 1) 0 : Nat) : Int) := w5g (by omega)
  have hB : ((1000000000 : Int)) = ((1000000000 : Nat) : Int) := rfl
  simp only [hi, e0, e1, e2, e3, e4, z1g, Int.toNat_natCast, z6x, c1, c2, c3, c4, c5, c6, c7, c8, if_true, if_false, decide_true]
  rw [hB]
  simp (disch := omega) only [w5g, <- Int.natCast_mul, <- Int.natCast_add, wr1, v0e]
  generalize htp : u.getD (k + p + 2) 0 * 1000000000 + u.getD (k + p + 1) 0 = top at *
  have htl : top < 1000000000 * 1000000000 := by omega
  have hqt : top / v.getD (p + 1) 0 <= top := Nat.div_le_self _ _
  rw [w5g (by omega)]
  have hdm := Nat.div_add_mod top (v.getD (p + 1) 0)
  have hml := Nat.mod_lt top (show v.getD (p + 1) 0 > 0 by omega)
  obtain ⟨q, e, q1, q2, q3⟩ := w66 u v h6 hv (p + 2) k hp.symm (by omega) (by omega) (by omega) (vl v) (vl (u.drop k)) (vl (v.take p)) (vl ((u.drop k).take p)) (1000000000 ^ p) top
   (by rw [show p + 2 - 1 = p + 1 by omega]; exact htop) (by rw [show p + 2 - 1 = p + 1 by omega, show p + 2 - 2 = p by omega]; exact hV) (by rw [show k + (p + 2) - 2 = k + p by omega]; exact hW) hvr hur
   (by rw [show p + 2 - 1 = p + 1 by omega]; exact wx3 hV hW hvr d3 hR) hR m (top / v.getD (p + 1) 0) (top % v.getD (p + 1) 0) (by rw [show p + 2 - 1 = p + 1 by omega, Nat.mul_comm]; exact hdm) (by omega) (by omega)
   (wc4 hV hW hur (z54 h6 (k + p)) (by rw [Nat.succ_mul, Nat.mul_comm]; omega))
  rw [e]
  simp only
  have e5 : ((0 : Nat) : Int) = 0 := rfl
  obtain ⟨d', u1, f, f1, f2, f3, f4, f5, f6⟩ := ys7 v hv q q1 k (by omega) m 0 0 0 u (by omega) (by omega) (by omega) h6 (by omega) (by omega) (by omega)
  have f : z13 m (k : Int) (q : Int) 0 0 0 (zs u) (zs v) = _ := f
  rw [f]
  simp only
  -- the window behind the subtraction
  have t1 : u1.take k = u.take k := take_same f3 fun j hj => f4 j (by omega)
  have t2 : vl (u1.drop (k + p + 3)) = 0 := by rw [w1f f3 fun j hj => f5 j (by omega)]; exact hz
  have s0 := zo5 u k (by omega)
  have s1 := zo5 u1 k (by omega)
  have w1 : vl (u1.drop k) + q * vl v = vl (u.drop k) + 1000000000 ^ (p + 3) * d' := by
   rw [t1] at s1
   rw [s0, s1, List.drop_zero, Nat.add_zero, show k + v.length + 1 = k + (p + 3) by omega, Nat.pow_add, Nat.mul_assoc] at f6
   have := v2d k
   apply Nat.eq_of_mul_eq_mul_left this
   rw [Nat.mul_add, Nat.mul_add]
   simp only [Nat.add_zero] at f6
   omega
  have small : ∀ (x : List Nat), Dg x -> x.length = u.length -> vl (x.drop (k + p + 3)) = 0 -> vl (x.drop k) < 1000000000 ^ (p + 3) := by
   intro x hx hxl h0
   have := zo5 (x.drop k) (p + 3) (by rw [List.length_drop]; omega)
   rw [List.drop_drop, show k + (p + 3) = k + p + 3 by omega, h0, Nat.mul_zero, Nat.add_zero] at this
   rw [this]
   have := ym4 (yh6 (w46 hx k) (p + 3))
   rwa [List.length_take, List.length_drop, Nat.min_eq_left (by omega)] at this
  have w2 := small u1 f2 f3 t2
  -- the next round
  have next : ∀ (q' : Nat) (u2 : List Nat), q' < 1000000000 -> Dg u2 -> u2.length = L -> vl (u2.drop k) < vl v -> vl u2 + 1000000000 ^ k * (q' * vl v) = vl u ->
    ∃ u' out', z5f m ((p + 2 : Nat) : Int) ((k : Int) - 1) (zs u2) (zs v) (zs (out.set k q')) = some (.exit (zs u', zs out', zs v, ())) /\ Dg u' /\ Dg out' /\ u'.length = L /\ out'.length = L - (p + 2) /\ vl u' < vl v /\ vl out' * vl v + vl u' = vl out * vl v + vl u := by
   intro q' u2 hq' g1 g2 g3 g4
   obtain ⟨u', out', g, j1, j2, j3, j4, j5, j6⟩ := w5z v hv p hp htop L hL hpL m k u2 (out.set k q') (by omega) (by omega) (by omega) g2 (by rw [List.length_set]; exact h5) g1 (yh5 h7 hq') g3 (fun j hj => by rw [z5d _ _ _ _ _ (by omega)]; exact h9 j (by omega))
   refine ⟨u', out', g, j1, j2, j3, j4, j5, ?_⟩
   have hs := yb0 out k q' (by omega)
   rw [h9 k (by omega), Nat.mul_zero, Nat.add_zero] at hs
   rw [j6, hs, <- g4, Nat.add_mul, Nat.mul_assoc]
   omega
  have c9 : (k : Int) < (out.length : Int) := by omega
  by_cases hd : d' = 0
  ·subst hd
   rw [if_neg (by simp)]
   rw [if_pos c9, ye3 (by omega), zn7]
   refine next q u1 q1 f2 (by omega) ?_ ?_
   ·rw [Nat.succ_mul] at q2; omega
   ·rw [t1] at s1
    rw [s0, s1, show vl (u.drop k) = vl (u1.drop k) + q * vl v by omega, Nat.mul_add]
    omega
  ·obtain rfl : d' = 1 := by omega
   rw [if_pos (by simp)]
   obtain ⟨c', u2, g, g1, g2, g3, g4, g5, g6⟩ := w27 v hv k (by omega) m 0 0 u1 (by omega) (by omega) (by omega) f2 (by omega)
   have g : z1u m (k : Int) 0 0 (zs u1) (zs v) = _ := g
   rw [g]
   simp only
   have hq0 : q ≠ 0 := fun e => by subst e; omega
   obtain ⟨q', rfl⟩ : ∃ q', q = q' + 1 := ⟨q - 1, by omega⟩
   rw [if_pos c9, show ((q' + 1 : Nat) : Int) - 1 = (q' : Int) by omega, w5g (by omega), ye3 (by omega), zn7]
   have t3 : u2.take k = u1.take k := take_same g3 fun j hj => g4 j (by omega)
   have t4 : vl (u2.drop (k + p + 3)) = 0 := by rw [w1f g3 fun j hj => g5 j (by omega)]; exact t2
   have w3 := small u2 g2 (by omega) t4
   have s2 := zo5 u2 k (by omega)
   have w4 : vl (u2.drop k) + 1000000000 ^ (p + 3) * c' = vl (u1.drop k) + vl v := by
    rw [t3] at s2
    rw [s1, s2, List.drop_zero, Nat.add_zero, show k + v.length + 1 = k + (p + 3) by omega, Nat.pow_add, Nat.mul_assoc] at g6
    have := v2d k
    apply Nat.eq_of_mul_eq_mul_left this
    rw [Nat.mul_add, Nat.mul_add]
    simp only [Nat.add_zero] at g6
    omega
   rw [Nat.succ_mul] at q3 w1
   have hc : c' = 1 := by
    rcases Nat.eq_zero_or_pos c' with h | h
    ·subst h; omega
    ·omega
   subst hc
   refine next q' u2 (by omega) g2 (by omega) ?_ ?_
   ·omega
   ·rw [t3, t1] at s2
    rw [s0, s2, show vl (u.drop k) = vl (u2.drop k) + q' * vl v by omega, Nat.mul_add]
    omega
theorem w68 (a : List Nat) (ha : a.length <= 4194304) : ∀ (m : Nat) (u : List Nat), Dg u -> a.length + 2 < m + u.length -> u.length <= a.length + 2 ->
  ∃ u', zf3 m (zs a) (zs u) = some (.exit (zs u', ())) /\ Dg u' /\ vl u' = vl u /\ u.length <= u'.length /\ u'.length <= a.length + 2 /\ (∀ p, u = p ++ [0] -> ∃ p', u' = p' ++ [0])
 | 0, u, h0, h1, h2 => by omega
 | m + 1, u, h0, h1, h2 => by
  simp only [zf3, z1g]
  by_cases hl : u.length <= a.length
  ·rw [if_pos (by simpa using hl), if_pos (by omega)]
   obtain ⟨u', e, k1, k2, k3, k4, k5⟩ := w68 a ha m (u ++ [0]) (zd8.2 ⟨h0, zq3.2 ⟨by decide, y4o⟩⟩) (by simp; omega) (by simp; omega)
   refine ⟨u', ?_, k1, by rw [k2, y3z], by simp at k3; omega, k4, fun _ _ => k5 _ rfl⟩
   rw [<- e, <- y3m]
   rfl
  ·rw [if_neg (by simpa using hl)]
   exact ⟨u, rfl, h0, rfl, Nat.le_refl _, h2, fun p hp => ⟨p, hp⟩⟩
theorem yh2 {n : Nat} (h : n ≠ 0) : (cn n).getD ((cn n).length - 1) 0 ≠ 0 := by
 rcases y99 (cn n) with e | ⟨p, d, e⟩
 ·exact absurd (w17.1 e) h
 ·have hd := v10 e
  rw [e]
  simp only [List.length_append, List.length_cons, List.length_nil, Nat.zero_add, Nat.add_sub_cancel]
  rwa [w6a]
theorem ws0 {d : Nat} (h0 : 0 < d) (hd : d < 1000000000) : cn d = [d] := by
 rw [y4m (by omega), Nat.mod_eq_of_lt hd, Nat.div_eq_of_lt hd, z53]
theorem w60 {a b : Nat} (ha : Sz a) (hb : Sz b) (h0 : 0 < b) : zh0 fuel (zs (cn a)) (zs (cn b)) = some (zs (cn (a / b)), zs (cn (a % b))) := by
 unfold zh0
 have ha' := ha
 have hb' := hb
 unfold Sz at ha' hb'
 have hf := y04
 rw [w5t ha hb, Option.bind_some]
 by_cases hab : a < b
 ·rw [if_pos hab, if_pos (by decide), Nat.div_eq_of_lt hab, Nat.mod_eq_of_lt hab, z53]
  rfl
 rw [if_neg hab]
 rw [if_neg (by split <;> decide)]
 have hbl : 0 < (cn b).length := zb8 (by omega)
 simp only [z1g]
 by_cases h1 : (cn b).length = 1
 ·obtain ⟨d, hd⟩ : ∃ d, cn b = [d] := by
   match hc : cn b, h1 with
   | [d], _ => exact ⟨d, rfl⟩
  have hbd : b = d := by rw [<- y86 b, hd]; simp [vl]
  have hd9 := y2m b d (by rw [hd]; simp)
  rw [if_pos (by simp [h1]), if_pos (by omega), z6x, hd]
  have e : ((([d] : List Nat).getD 0 0 : Nat) : Int) = (d : Int) := rfl
  rw [e, w77 (y2m a) (by omega) (by omega) hd9, Option.bind_some, y86, hbd]
 rw [if_neg (by simp; omega)]
 have e1 : IntKind.i64.wrap (((cn b).length : Int) - 1) = (((cn b).length - 1 : Nat) : Int) := by rw [w64 _ (by omega) (by omega)]; omega
 have htb := yh2 (show b ≠ 0 by omega)
 have hdb := z54 (y2m b) ((cn b).length - 1)
 generalize hbt : (cn b).getD ((cn b).length - 1) 0 = bt at *
 have hB : ((1000000000 : Int)) = ((1000000000 : Nat) : Int) := rfl
 have hO : ((1 : Int)) = ((1 : Nat) : Int) := rfl
 have hby : 1000000000 / (bt + 1) <= 1000000000 := Nat.div_le_self _ _
 have hby1 : 0 < 1000000000 / (bt + 1) := Nat.div_pos (by omega) (by omega)
 have hby2 : 1000000000 / (bt + 1) < 1000000000 := Nat.div_lt_self (by decide) (by omega)
 have eby : IntKind.u32.wrap (IntKind.u64.wrap ((1000000000 : Int).tdiv (IntKind.u64.wrap ((IntKind.u64.wrap ((bt : Nat) : Int)) + 1)))) = ((1000000000 / (bt + 1) : Nat) : Int) := by
  rw [hB, hO]
  simp (disch := omega) only [w5g, <- Int.natCast_add, wr1, ye3]
 simp only [e1, Int.toNat_natCast, z6x, hbt, eby]
 have c1 : (0 : Int) <= (((cn b).length - 1 : Nat) : Int) := by omega
 have c2 : (((cn b).length - 1 : Nat) : Int) < ((cn b).length : Int) := by omega
 have c3 : ¬ (IntKind.u64.wrap ((IntKind.u64.wrap ((bt : Nat) : Int)) + 1) = 0) := by
  rw [hO]
  simp (disch := omega) only [w5g, <- Int.natCast_add]
  omega
 rw [if_pos c1, if_pos c2, if_neg c3]
 generalize 1000000000 / (bt + 1) = by' at *
 have hby' : Sz by' := by unfold Sz; rw [ws0 hby1 hby2]; simp
 rw [wv4, <- ws0 hby1 hby2, y7o ha hby', Option.bind_some]
 have hla : (cn (a * by')).length <= (cn a).length + 1 := by
  rw [zd7, z5s, Nat.mul_comm]
  exact Nat.mul_lt_mul_of_lt_of_le hby2 (Nat.le_of_lt (wm1 a)) (v2d _)
 have hlb : (cn b).length <= (cn (b * by')).length := yh1 (Nat.le_mul_of_pos_right _ hby1)
 have hlba : (cn (b * by')).length <= (cn (a * by')).length := yh1 (Nat.mul_le_mul_right _ (by omega))
 rw [z1g, if_pos (by omega), y7o hb hby', Option.bind_some]
 obtain ⟨u, e, k1, k2, k3, k4, k5⟩ := w68 (cn a) ha' fuel (cn (a * by') ++ [0]) (zd8.2 ⟨y2m _, zq3.2 ⟨by decide, y4o⟩⟩) (by omega) (by simp; omega)
 rw [show zs (cn (a * by')) ++ [0] = zs (cn (a * by') ++ [0]) from y3m _ 0, e]
 simp only [z1g]
 simp only [List.length_append, List.length_cons, List.length_nil, Nat.zero_add] at k3
 obtain ⟨v, hv⟩ : ∃ v, v = cn (b * by') := ⟨_, rfl⟩
 have hvv : vl v = b * by' := by rw [hv, y86]
 have hvd : Dg v := hv ▸ y2m _
 rw [<- hv] at hlb hlba ⊢
 obtain ⟨p, hp⟩ : ∃ p, v.length = p + 2 := ⟨v.length - 2, by omega⟩
 have hvt : 1 <= v.getD (p + 1) 0 := by
  have := yh2 (n := b * by') (by have := Nat.mul_pos h0 hby1; omega)
  rw [<- hv, hp] at this
  exact Nat.pos_of_ne_zero this
 have e2 : IntKind.i64.wrap ((u.length : Int) - (v.length : Int)) = ((u.length - (p + 2) : Nat) : Int) := by rw [w64 _ (by omega) (by omega)]; omega
 have e3 : IntKind.i64.wrap (((u.length - (p + 2) : Nat) : Int) - 1) = ((u.length - (p + 2) : Nat) : Int) - 1 := w64 _ (by omega) (by omega)
 simp only [e2, e3, Int.toNat_natCast]
 rw [if_pos (by omega), if_pos (by omega), if_pos (by omega), w30, hp]
 have hbig : 1099511627776 <= fuel := hf
 obtain ⟨u2, out, g, j1, j2, j3, j4, j5, j6⟩ := w5z v hvd p hp hvt u.length (by omega) (by omega) fuel (u.length - (p + 2)) u (List.replicate (u.length - (p + 2)) 0) (by omega) (by omega) (by omega) rfl (by simp) k1 (w5w _)
  (by
    obtain ⟨q, rfl⟩ := k5 _ rfl
    simp only [List.length_append, List.length_cons, List.length_nil, Nat.zero_add] at k3 k4 ⊢
    rw [List.drop_append_of_le_length (by omega), y3z]
    have h1 := ym4 (w46 (zd8.1 k1).1 (q.length + 1 - (p + 2)))
    rw [List.length_drop, show q.length - (q.length + 1 - (p + 2)) = p + 1 by omega] at h1
    have h2 := v0z (n := b * by') (by have := Nat.mul_pos h0 hby1; omega)
    rw [<- hv, hp] at h2
    rw [hvv]
    exact Nat.lt_of_lt_of_le h1 h2) (fun j _ => ye0 _ j)
 rw [g]
 simp only
 have k2' : vl u = a * by' := by rw [k2, y3z, y86]
 rw [w2y, Nat.zero_mul, Nat.zero_add, k2', hvv] at j6
 rw [hvv] at j5
 have hpos : 0 < b * by' := Nat.mul_pos h0 hby1
 have hq : vl out = a / b := by
  rw [<- Nat.mul_div_mul_right a b hby1, <- j6, Nat.mul_comm (vl out), Nat.mul_add_div hpos, Nat.div_eq_of_lt j5, Nat.add_zero]
 have hr : vl u2 = a % b * by' := by
  rw [<- Nat.mul_mod_mul_right, <- j6, Nat.mul_comm (vl out), Nat.mul_add_mod, Nat.mod_eq_of_lt j5]
 rw [yz5 j1 (by omega), Option.bind_some, w77 (y2m _) (by have := (zd7 (vl u2) u2.length).2 (ym4 j1); omega) hby1 hby2, Option.bind_some, yz5 j2 (by omega), Option.bind_some, hq, y86, hr, Nat.mul_div_cancel _ hby1]
theorem ym2 {a b : Nat} (h : a <= b) (hb : Sz b) : Sz a := Nat.le_trans (yh1 h) hb
theorem w69 : ∀ (m a b : Nat), Sz a -> Sz b -> (∃ j, b < 2 ^ j /\ 2 * j + 1 < m) -> z8l m (zs (cn a)) (zs (cn b)) = some (.exit (zs (cn (Nat.gcd a b)), ()))
 | 0, a, b, ha, hb, ⟨j, h1, h2⟩ => by omega
 | m + 1, a, b, ha, hb, ⟨j, h1, h2⟩ => by
  simp only [z8l, z1g]
  by_cases h0 : b = 0
  ·subst h0
   rw [z53, if_neg (by simp), Nat.gcd_zero_right]
  ·have := zb8 h0
   rw [if_pos (by simpa using zb8 h0), w60 ha hb (by omega), Option.bind_some]
   have hm := Nat.mod_lt a (show b > 0 by omega)
   have hg : Nat.gcd a b = Nat.gcd b (a % b) := by rw [Nat.gcd_comm a b, Nat.gcd_rec b a, Nat.gcd_comm]
   rw [hg]
   have hz := ym2 (Nat.le_of_lt hm) hb
   match m, h2 with
   | m + 1, h2 =>
   simp only [z8l, z1g]
   by_cases h3 : a % b = 0
   ·rw [h3, z53, if_neg (by simp), Nat.gcd_zero_right]
   ·rw [if_pos (by simpa using zb8 h3), w60 hb hz (by omega), Option.bind_some]
    have hg2 : Nat.gcd b (a % b) = Nat.gcd (a % b) (b % (a % b)) := by rw [Nat.gcd_comm b, Nat.gcd_rec (a % b) b, Nat.gcd_comm]
    rw [hg2]
    have hm2 := Nat.mod_lt b (show a % b > 0 by omega)
    have hj : j ≠ 0 := fun e => by subst e; omega
    refine w69 m (a % b) (b % (a % b)) hz (ym2 (Nat.le_of_lt hm2) hz) ⟨j - 1, ?_, by omega⟩
    obtain ⟨i, rfl⟩ : ∃ i, j = i + 1 := ⟨j - 1, by omega⟩
    rw [Nat.pow_succ] at h1
    have : 2 * (b % (a % b)) < b := by
     have h4 := Nat.div_add_mod b (a % b)
     have h5 : 1 <= b / (a % b) := Nat.div_pos (by omega) (by omega)
     have h6 := Nat.mul_le_mul_left (a % b) h5
     omega
    rw [Nat.add_sub_cancel]
    omega
theorem wd6 {a b : Nat} (ha : Sz a) (hb : Sz b) : z6t fuel (zs (cn a)) (zs (cn b)) = some (zs (cn (Nat.gcd a b))) := by
 unfold z6t
 have hf := y04
 rw [w69 fuel a b ha hb ⟨30 * (cn b).length, ?_, by unfold Sz at hb; omega⟩]
 refine Nat.lt_of_lt_of_le (wm1 b) ?_
 rw [Nat.pow_mul]
 exact Nat.pow_le_pow_left (by decide) _
end Go.Proofs.YtcdcoeofhnfjdabGreatDoor
namespace Go.Proofs.YtcdcoeofhnfjdabGreatDoor
open Go Vm
theorem yr8 (l : List Nat) (hb : By l) (hs : l.length <= 4611686018427387904) : ∀ (m i : Nat), i <= l.length -> l.length < m + i ->
  z70 m (zs l) (l.length : Int) (i : Int) = if ∀ c, c ∈ l.drop i -> 48 <= c /\ c <= 57 then some (.exit ()) else some (.ret (5, ()))
 | 0, i, h1, h2 => by omega
 | m + 1, i, h1, h2 => by
  simp only [z70]
  by_cases hi : i < l.length
  ·have e0 : (0 : Int) <= (i : Int) := by omega
   have e1 : (i : Int) < (l.length : Int) := by omega
   have e4 : IntKind.i64.wrap ((i : Int) + 1) = ((i + 1 : Nat) : Int) := by rw [w64 _ (by omega) (by omega)]; omega
   simp only [z1g, Int.toNat_natCast, z6x, e0, e1, if_true, decide_true, e4]
   have hd : l.drop i = l.getD i 0 :: l.drop (i + 1) := by rw [List.drop_eq_getElem_cons hi, z3d l i 0 hi]
   rw [yr8 l hb hs m (i + 1) (by omega) (by omega), hd]
   by_cases h3 : l.getD i 0 < 48
   ·rw [if_neg (by simp only [decide_eq_false_iff_not]; omega), if_neg (fun h => by have := h _ (List.mem_cons_self ..); omega)]
   ·rw [if_pos (by simp only [decide_eq_false_iff_not]; omega)]
    by_cases h4 : 57 < l.getD i 0
    ·rw [if_pos (by simp only [decide_eq_true_eq]; omega), if_neg (fun h => by have := h _ (List.mem_cons_self ..); omega)]
    ·rw [if_neg (by simp only [decide_eq_true_eq]; omega)]
     by_cases h5 : ∀ c, c ∈ l.drop (i + 1) -> 48 <= c /\ c <= 57
     ·rw [if_pos h5, if_pos (fun c hc => by
        rcases List.mem_cons.1 hc with rfl | hc
        · omega
        · exact h5 c hc)]
     ·rw [if_neg h5, if_neg (fun h => h5 fun c hc => h c (List.mem_cons_of_mem _ hc))]
  ·have e1 : ¬ (i : Int) < (l.length : Int) := by omega
   simp only [e1, decide_false, Bool.false_eq_true, if_false]
   rw [List.drop_of_length_le (by omega), if_pos (fun c hc => by cases hc)]
theorem yg9 (l : List Nat) (hb : By l) (hs : l.length <= 4611686018427387904) : z6s fuel (sb l) =
  if l = [] then some 5 else if l.getD 0 0 = 48 /\ 1 < l.length then some 5 else if ∀ c, c ∈ l -> 48 <= c /\ c <= 57 then (if 2000 < l.length then some 2 else some 0) else some 5 := by
 unfold z6s
 have hf := z82 (n := 2 ^ 100) (by decide)
 rw [wt9, w8v hb w11, z4d, w76 hb, wi8 hb, z1g]
 by_cases h0 : l = []
 ·rw [if_neg (by simp [h0]), if_pos h0]
 ·have hl : 0 < l.length := List.length_pos_iff.2 h0
  rw [if_pos (by simp [h0]), if_pos (by omega), if_neg h0]
  have hloop := yr8 l hb hs fuel 0 (by omega) (by omega)
  rw [List.drop_zero] at hloop
  have hloop : z70 fuel (zs l) (l.length : Int) 0 = _ := hloop
  rw [hloop]
  have hbig : decide ((l.length : Int) > 2000) = decide (2000 < l.length) := decide_eq_decide.2 (by omega)
  by_cases h1 : l.getD 0 0 = 48
  ·rw [if_pos (by rw [h1]; rfl)]
   by_cases h2 : 1 < l.length
   ·rw [if_pos (by simp only [decide_eq_true_eq]; omega), if_pos ⟨h1, h2⟩]
   ·have hA : ¬ (l.getD 0 0 = 48 /\ 1 < l.length) := fun h => h2 h.2
    rw [if_neg (by simp only [decide_eq_true_eq]; omega)]
    simp only [if_neg hA]
    by_cases h3 : ∀ c, c ∈ l -> 48 <= c /\ c <= 57
    ·simp only [if_pos h3, hbig, decide_eq_true_eq]
    ·simp only [if_neg h3]
  ·have hA : ¬ (l.getD 0 0 = 48 /\ 1 < l.length) := fun h => h1 h.1
   rw [if_neg (fun e => h1 (by have := beq_iff_eq.1 e; omega))]
   simp only [if_neg hA]
   by_cases h3 : ∀ c, c ∈ l -> 48 <= c /\ c <= 57
   ·simp only [if_pos h3, hbig, decide_eq_true_eq]
   ·simp only [if_neg h3]
theorem v18 (n : Nat) : ∀ c, c ∈ dt n -> 48 <= c /\ c <= 57 := fun c hc => by
 obtain ⟨d, hd, rfl⟩ := List.mem_map.1 hc
 have := w7c n d hd
 omega
theorem wm0 (n : Nat) (h : (dig n).length <= 1000000) : z6s fuel (txt n) = some (if (dig n).length <= 2000 then 0 else 2) := by
 have hl : (dt n).length = (dig n).length := by rw [dt, List.length_map]
 have hp := z68 n
 unfold txt
 rw [yg9 _ (yg7 n) (by omega), if_neg (fun e => by rw [e] at hl; simp at hl; omega)]
 rw [if_neg]
 ·rw [if_pos (v18 n), hl]
  by_cases h1 : (dig n).length <= 2000
  ·rw [if_neg (by omega), if_pos h1]
  ·rw [if_pos (by omega), if_neg h1]
 ·rintro ⟨h1, h2⟩
  by_cases h0 : n = 0
  ·subst h0
   have : dt 0 = [48] := by simp [dt, dig]
   rw [this] at h2
   simp at h2
  ·have := w5x h0
   unfold dt at h1
   cases hd : dig n with
   | nil => rw [hd] at hp; simp at hp
   | cons c l =>
    rw [hd] at this h1
    have h1 : 48 + c = 48 := h1
    apply this
    rw [show c = 0 by omega]
    rfl
theorem y3t (s : ByteArray) (hs : s.size <= 4611686018427387904) : (∃ e : Int, e ≠ 0 /\ z6s fuel s = some e /\ ∀ n, s = txt n -> 2000 < (dig n).length) \/ ∃ n, s = txt n /\ (dig n).length <= 2000 /\ z6s fuel s = some 0 := by
 have e := v1y s
 have hb := v0x s
 have hl : s.size = (bt s).length := by rw [<- z4d, e]
 generalize bt s = l at *
 subst e
 rw [yg9 l hb (by omega)]
 have no : ∀ n, sb l = txt n -> l = dt n := fun n h => by
  have := congrArg bt h
  unfold txt at this
  rwa [yw2 hb, yw2 (yg7 n)] at this
 by_cases h0 : l = []
 ·rw [if_pos h0]
  refine .inl ⟨5, by decide, rfl, fun n h => ?_⟩
  have := no n h
  have hp := z68 n
  rw [h0] at this
  have := congrArg List.length this
  simp [dt] at this
  simp [this] at hp
 ·rw [if_neg h0]
  by_cases h1 : l.getD 0 0 = 48 /\ 1 < l.length
  ·rw [if_pos h1]
   refine .inl ⟨5, by decide, rfl, fun n h => ?_⟩
   have h2 := no n h
   subst h2
   by_cases hn : n = 0
   ·subst hn
    have : dt 0 = [48] := by simp [dt, dig]
    rw [this] at h1
    simp at h1
   ·exfalso
    have := w5x hn
    have h1 := h1.1
    unfold dt at h1
    cases hd : dig n with
    | nil => have hp := z68 n; rw [hd] at hp; simp at hp
    | cons c l =>
     rw [hd] at this h1
     have h1 : 48 + c = 48 := h1
     apply this
     rw [show c = 0 by omega]
     rfl
  ·rw [if_neg h1]
   by_cases h3 : ∀ c, c ∈ l -> 48 <= c /\ c <= 57
   ·rw [if_pos h3]
    have ⟨ds, hds⟩ : ∃ ds : List Nat, l = ds.map (48 + ·) := ⟨l.map (· - 48), by
      rw [List.map_map]
      refine ((List.map_congr_left (g := id) fun c hc => ?_).trans (List.map_id l)).symm
      have := h3 c hc
      show 48 + (c - 48) = c
      omega⟩
    subst hds
    have hT : Tn ds := fun c hc => by have := h3 (48 + c) (List.mem_map.2 ⟨c, hc, rfl⟩); omega
    have hd : ds = dig (dv 0 ds) := v14 hT (by
      cases ds with
      | nil => exact absurd rfl h0
      | cons c r =>
        by_cases hc : c = 0
        · subst hc
          cases r with
          | nil => exact .inl rfl
          | cons d r => exact absurd ⟨rfl, by simp⟩ h1
        · exact .inr ⟨by simp, by simp [hc]⟩)
    have htx : sb (ds.map (48 + ·)) = txt (dv 0 ds) := by unfold txt dt; rw [<- hd]
    rw [List.length_map]
    by_cases h4 : 2000 < ds.length
    ·rw [if_pos h4]
     refine .inl ⟨2, by decide, rfl, fun n h => ?_⟩
     have := no n h
     unfold dt at this
     rw [<- w1z this]
     exact h4
    ·rw [if_neg h4]
     exact .inr ⟨dv 0 ds, htx, by rw [<- hd]; omega, rfl⟩
   ·rw [if_neg h3]
    refine .inl ⟨5, by decide, rfl, fun n h => ?_⟩
    have := no n h
    subst this
    exact absurd (v18 n) h3
theorem w25 (l : List Nat) (hl : Tn l) (hs : l.length <= 9) : ∀ (m i d : Nat), i <= l.length -> l.length < m + i -> d < 10 ^ i ->
  zc5 m (d : Int) (zs (l.map (48 + ·))) (l.length : Int) (i : Int) = some (.exit (((dv d (l.drop i) : Nat) : Int), ()))
 | 0, i, d, h1, h2, h3 => by omega
 | m + 1, i, d, h1, h2, h3 => by
  simp only [zc5]
  by_cases hi : i < l.length
  ·have e0 : (0 : Int) <= (i : Int) := by omega
   have e1 : (i : Int) < (l.length : Int) := by omega
   have e4 : IntKind.i64.wrap ((i : Int) + 1) = ((i + 1 : Nat) : Int) := by rw [w64 _ (by omega) (by omega)]; omega
   have hc := hl (l.getD i 0) (by rw [z3d l i 0 hi]; exact List.getElem_mem hi)
   have hg : (l.map (48 + ·)).getD i 0 = 48 + l.getD i 0 := by
    rw [z3d _ i 0 (by simpa using hi), z3d l i 0 hi, List.getElem_map]
   have hd : d < 100000000 := Nat.lt_of_lt_of_le h3 (Nat.le_trans (Nat.pow_le_pow_right (by decide) (show i <= 8 by omega)) (by decide))
   simp only [List.length_map, Int.toNat_natCast, z6x, hg, e0, e1, if_true, decide_true, e4]
   rw [show ((48 + l.getD i 0 : Nat) : Int) - 48 = ((l.getD i 0 : Nat) : Int) by omega, u8n (by omega), ye3 (by omega), show ((d : Int) * 10) = ((d * 10 : Nat) : Int) by omega, ye3 (by omega), <- Int.natCast_add, ye3 (by omega)]
   rw [w25 l hl hs m (i + 1) (d * 10 + l.getD i 0) (by omega) (by omega) (by rw [Nat.pow_succ]; omega)]
   rw [List.drop_eq_getElem_cons hi, dv, z3d l i 0 hi]
  ·have e1 : ¬ (i : Int) < (l.length : Int) := by omega
   simp only [e1, decide_false, Bool.false_eq_true, if_false]
   rw [List.drop_of_length_le (by omega)]
   rfl
theorem w2b (l : List Nat) (hl : Tn l) (hs : l.length <= 4194304) : ∀ (m : Nat) (z : Int) (out : List Nat), z <= (l.length : Int) -> -9223372036854775800 <= z -> z.toNat + 100 < m -> Dg out -> out.length + z.toNat <= 4194304 ->
  ∃ out', zc4 m (sb (l.map (48 + ·))) z (zs out) = some (.exit (zs out', ())) /\ Dg out' /\ out'.length <= 4194304 /\ vl out' = vl out + 1000000000 ^ out.length * dv 0 (l.take z.toNat)
 | 0, z, out, h1, h1', h2, h3, h4 => by omega
 | m + 1, z, out, h1, h1', h2, h3, h4 => by
  simp only [zc4]
  by_cases hz : z > 0
  ·obtain ⟨e, rfl⟩ : ∃ e : Nat, z = e := ⟨z.toNat, by omega⟩
   have hw : IntKind.i64.wrap ((e : Int) - 9) = (e : Int) - 9 := w64 _ (by omega) (by omega)
   have hmx : (if (e : Int) - 9 > 0 then (e : Int) - 9 else 0) = ((e - 9 : Nat) : Int) := by split <;> omega
   have hB : By (l.map (48 + ·)) := w9w hl
   have e1 : decide ((e : Int) > 0) = true := by simpa using hz
   have e2 : (0 : Int) <= (e : Int) := by omega
   have e3 : (e : Int) <= ((sb (l.map (48 + ·))).size : Int) := by rw [z4d, List.length_map]; exact h1
   have e4 : (0 : Int) <= ((e - 9 : Nat) : Int) := by omega
   have e5 : ((e - 9 : Nat) : Int) <= (e : Int) := by omega
   have e6 : (out.length + 1) * 4 <= 140737488355328 := by omega
   have hx : ((l.map (48 + ·)).take e).drop (e - 9) = ((l.take e).drop (e - 9)).map (48 + ·) := by rw [List.map_drop, List.map_take]
   have hT : Tn ((l.take e).drop (e - 9)) := fun c hc => hl c (List.mem_of_mem_take (List.mem_of_mem_drop hc))
   have hlen : ((l.take e).drop (e - 9)).length <= 9 := by rw [List.length_drop, List.length_take]; omega
   have hp := w25 _ hT hlen m 0 0 (by omega) (by omega) (by decide)
   have hp : zc5 m 0 _ _ 0 = _ := hp
   rw [List.drop_zero] at hp
   simp only [e1, hw, hmx, e2, e3, e4, e5, if_true, Int.toNat_natCast, zh8, hx, w76 (w9w hT), List.length_map]
   rw [hp]
   simp only
   have hlt := v1d hT
   have hlt9 : dv 0 ((l.take e).drop (e - 9)) < 1000000000 := Nat.lt_of_lt_of_le hlt (Nat.le_trans (Nat.pow_le_pow_right (by decide) hlen) (by decide))
   rw [if_pos e6, y3m]
   obtain ⟨out', g, k1, k2, k3⟩ := w2b l hl hs m ((e : Int) - 9) (out ++ [dv 0 ((l.take e).drop (e - 9))]) (by omega) (by omega) (by omega) (zd8.2 ⟨h3, zq3.2 ⟨hlt9, y4o⟩⟩) (by simp; omega)
   refine ⟨out', g, k1, k2, ?_⟩
   rw [k3, zf5, List.length_append, List.length_singleton, z5s, show ((e : Int) - 9).toNat = e - 9 by omega]
   have hsp := wn0 (l.take e) (e - 9) (by rw [List.length_take]; omega)
   rw [List.take_take, Nat.min_eq_left (by omega), List.length_take, Nat.min_eq_left (show e <= l.length by omega)] at hsp
   simp only [vl, Nat.mul_zero, Nat.add_zero]
   rw [hsp]
   by_cases h9 : 9 <= e
   ·rw [show e - (e - 9) = 9 by omega, show (10 : Nat) ^ 9 = 1000000000 by decide]
    grind
   ·rw [show e - 9 = 0 by omega, List.take_zero, dv]
    simp
  ·have e1 : decide (z > 0) = false := by simpa using hz
   simp only [e1, Bool.false_eq_true, if_false]
   refine ⟨out, rfl, h3, by omega, ?_⟩
   rw [show z.toNat = 0 by omega, List.take_zero]
   simp [dv]
theorem v04 (n : Nat) (h : (dig n).length <= 4194304) : z3w fuel (txt n) = some (zs (cn n)) := by
 unfold z3w
 have hf := y04
 obtain ⟨out', g, k1, k2, k3⟩ := w2b (dig n) (w7c n) h fuel ((dig n).length : Int) [] (by omega) (by omega) (by omega) y4o (by simp; omega)
 have g : zc4 fuel (txt n) ((dig n).length : Int) [] = _ := g
 rw [w7e, g]
 simp only [z1g]
 obtain ⟨j, e2, k5⟩ := y82 fuel out'.length out' k1 (by omega) (by omega) (by omega)
 rw [e2]
 show some ((zs out').take j) = _
 rw [List.take_length] at k5
 rw [yn1, k5, k3]
 simp only [vl, List.length_nil, Nat.pow_zero, Nat.zero_add, Nat.one_mul, Int.toNat_natCast, List.take_length, wb8]
theorem ys0 : ∀ (m j d : Nat) (part : List Nat), j <= 9 -> j < m -> part.length = 9 -> d < 4294967296 ->
  z5q m (d : Int) ((j : Int) - 1) (zs part) = some (.exit (zs ((pd j d).map (48 + ·) ++ part.drop j), ()))
 | 0, j, d, part, h1, h2, h3, h4 => by omega
 | m + 1, 0, d, part, h1, h2, h3, h4 => by
  simp only [z5q]
  simp [pd]
 | m + 1, j + 1, d, part, h1, h2, h3, h4 => by
  simp only [z5q]
  have hi : ((j + 1 : Nat) : Int) - 1 = (j : Int) := by omega
  have e0 : (0 : Int) <= (j : Int) := by omega
  have e1 : (j : Int) < 9 := by omega
  have hw : IntKind.i64.wrap ((j : Int) - 1) = (j : Int) - 1 := w64 _ (by omega) (by omega)
  have hT : (10 : Int) = ((10 : Nat) : Int) := rfl
  have hF : (48 : Int) = ((48 : Nat) : Int) := rfl
  simp only [hi, e0, e1, hw, decide_true, if_true, Int.toNat_natCast]
  rw [hT, hF]
  simp (disch := omega) only [wr1, v0e, <- Int.natCast_add, ye3, u8n]
  rw [zn7, ys0 m j (d / 10) (part.set j (48 + d % 10)) (by omega) (by omega) (by rw [List.length_set]; exact h3) (by omega)]
  have : (part.set j (48 + d % 10)).drop j = (48 + d % 10) :: part.drop (j + 1) := by
   rw [List.drop_eq_getElem_cons (by rw [List.length_set]; omega), List.getElem_set_self, List.drop_set_of_lt (by omega)]
  rw [this, pd, List.map_append, List.append_assoc]
  rfl
theorem w2s (l : List Nat) (hl : Dg l) (hs : l.length <= 8388608) : ∀ (m i : Nat) (out : List Nat), i <= l.length -> i + 100 < m -> out.length + 9 * i <= 100000000 ->
  z6c m (zs l) ((i : Int) - 1) (zs out) = some (.exit (zs (out ++ (bg l i).map (48 + ·)), ()))
 | 0, i, out, h1, h2, h3 => by omega
 | m + 1, 0, out, h1, h2, h3 => by
  simp only [z6c]
  simp [bg]
 | m + 1, i + 1, out, h1, h2, h3 => by
  simp only [z6c]
  have hi : ((i + 1 : Nat) : Int) - 1 = (i : Int) := by omega
  have e0 : (0 : Int) <= (i : Int) := by omega
  have e1 : (i : Int) < (l.length : Int) := by omega
  have hw : IntKind.i64.wrap ((i : Int) - 1) = (i : Int) - 1 := w64 _ (by omega) (by omega)
  have dl := z54 hl i
  have hd := ys0 m 9 (l.getD i 0) (List.replicate 9 0) (by omega) (by omega) (by simp) (by omega)
  have hd : z5q m ((l.getD i 0 : Nat) : Int) 8 (zs (List.replicate 9 0)) = _ := hd
  have hlen : (zs ((pd 9 (l.getD i 0)).map (48 + ·) ++ (List.replicate 9 0).drop 9)).take 9 = zs ((pd 9 (l.getD i 0)).map (48 + ·)) := by
   rw [yn1, List.take_append_of_le_length (by rw [List.length_map, y0d]; omega), List.take_of_length_le (by rw [List.length_map, y0d]; omega)]
  simp only [hi, e0, e1, hw, z1g, decide_true, if_true, Int.toNat_natCast, z6x]
  rw [w30, hd]
  simp only [hlen, List.drop_zero, List.length_map, y0d]
  rw [if_pos (by omega), show zs out ++ zs ((pd 9 (l.getD i 0)).map (48 + ·)) = zs (out ++ (pd 9 (l.getD i 0)).map (48 + ·)) by rw [zs, zs, zs, <- List.map_append],
    w2s l hl hs m i (out ++ (pd 9 (l.getD i 0)).map (48 + ·)) (by omega) (by omega) (by rw [List.length_append, List.length_map, y0d]; omega), bg, List.map_append, List.append_assoc]
theorem w1s : ∀ (m : Nat) (l : List Nat), Tn l -> l.length < m -> l.length <= 100000000 -> z33 m (sb (l.map (48 + ·))) 48 = some (.exit (sb ((l.dropWhile (· == 0)).map (48 + ·)), ()))
 | 0, l, h, h1, h2 => by omega
 | m + 1, [], h, h1, h2 => by
  simp only [z33]
  rfl
 | m + 1, c :: l, h, h1, h2 => by
  simp only [z33]
  have hB : By ((c :: l).map (48 + ·)) := w9w h
  have hg : (((c :: l).map (48 + ·)).getD 0 0) = 48 + c := rfl
  rw [z4d, wi8 hB, hg, if_pos (by simp only [List.length_map, List.length_cons, decide_eq_true_eq]; omega), if_pos (by simp only [List.length_map, List.length_cons]; omega)]
  by_cases hc : c = 0
  ·subst hc
   have hx : (sb (((0 : Nat) :: l).map (48 + ·))).extract 1 (List.length ((0 :: l).map (48 + ·))) = sb (l.map (48 + ·)) := by
    rw [zh8, List.take_length]; rfl
   rw [if_pos (by rfl), if_pos (by simp only [List.length_map, List.length_cons]; omega), hx, w1s m l (fun c hc => h c (List.mem_cons_of_mem _ hc)) (by simpa using h1) (by simp at h2; omega), List.dropWhile_cons_of_pos (by rfl)]
  ·rw [if_neg (by intro e; apply hc; simp at e; omega), List.dropWhile_cons_of_neg (by simpa using hc)]
theorem wy8 (l : List Nat) (h : Tn l) (hs : l.length <= 100000000) : z7p fuel (sb (l.map (48 + ·))) (⟨#[48]⟩ : ByteArray) = some (sb ((l.dropWhile (· == 0)).map (48 + ·))) := by
 unfold z7p
 have hf := y04
 have h48 : (⟨#[48]⟩ : ByteArray) = sb [48] := rfl
 have hB : By (l.map (48 + ·)) := w9w h
 have hB48 : By [48] := fun c hc => by rw [List.mem_singleton] at hc; omega
 rw [h48, wt9, w8v hB w11]
 by_cases h0 : l = []
 ·subst h0
  rw [if_neg (by simp)]
  rfl
 ·have s1 : (((sb [48]).size : Nat) : Int) = 1 := rfl
  have e : (((sb [48]).data.getD 0 0).toNat : Int) = 48 := rfl
  rw [if_pos (by simp [h0]), w8v hB48 w11, if_neg (by simp)]
  simp only [s1, e]
  rw [if_pos (by decide), if_pos (by decide), if_pos (by decide), if_pos (by decide)]
  unfold z7i
  rw [w1s fuel l h (by omega) hs]
  rfl
theorem yz4 (n : Nat) (h : (cn n).length <= 8388608) : z7x fuel (zs (cn n)) = some (txt n) := by
 unfold z7x
 have hf := y04
 simp only [z1g]
 by_cases h0 : n = 0
 ·subst h0
  rw [z53, if_pos (by rfl)]
  congr 1
 ·have hl := zb8 h0
  rw [if_neg (fun e => by have := beq_iff_eq.1 e; omega)]
  have hw : IntKind.i64.wrap (9 * ((cn n).length : Int)) = ((9 * (cn n).length : Nat) : Int) := by rw [w64 _ (by omega) (by omega)]; omega
  rw [hw, if_pos (by omega), if_pos (by omega), w64 _ (by omega) (by omega)]
  have := w2s (cn n) (y2m n) h fuel (cn n).length [] (by omega) (by omega) (by simp; omega)
  have : z6c fuel (zs (cn n)) (((cn n).length : Int) - 1) (List.replicate 0 0) = _ := this
  rw [this]
  simp only [List.nil_append]
  rw [v36, wy8 _ (v0f _ _) (by rw [yg6]; omega), Option.bind_some, v17 (v0f _ _), v1c (y2m n) _ (Nat.le_refl _), List.take_length, y86]
  unfold txt dt dig
  rw [if_neg h0]
end Go.Proofs.YtcdcoeofhnfjdabGreatDoor
namespace Go.Proofs.YtcdcoeofhnfjdabGreatDoor
open Go Vm
def Ok (n : Nat) : Prop := (dig n).length <= 2000
instance (n : Nat) : Decidable (Ok n) := inferInstanceAs (Decidable ((dig n).length <= 2000))
theorem wt4 {n k : Nat} (h : (dig n).length <= 9 * k) (hk : k <= 4194304) : Sz n := Nat.le_trans (wa4 h) hk
theorem wg8 {n : Nat} (h : Ok n) : Sz n := wt4 (k := 223) (by unfold Ok at h; omega) (by decide)
theorem wp6 {n k : Nat} (h : n < 10 ^ k) (h1 : 1 <= k) (hk : k <= 2000) : Ok n := Nat.le_trans ((z4a n k h1).2 h) hk
theorem w14 {n : Nat} (h : Ok n) : z6s fuel (txt n) = some 0 := by
 unfold Ok at h
 rw [wm0 n (by omega), if_pos h]
theorem y3w {n : Nat} (h : Ok n) : z3w fuel (txt n) = some (zs (cn n)) := v04 n (by unfold Ok at h; omega)
theorem ne0 {e : Int} (h : e ≠ 0) : (e != 0) = true := by simpa using h
theorem sz8 {n : Nat} (h : Sz n) : (cn n).length <= 8388608 := by unfold Sz at h; omega
theorem txt_zero : (⟨#[48]⟩ : ByteArray) = txt 0 := by
 have : dt 0 = [48] := by simp [dt, dig]
 unfold txt
 rw [this]
 rfl
theorem zk5 {n k : Nat} (h : n < 10 ^ k) (hk : k <= 37000001) : Sz n := by
 have h1 : n < 10 ^ (k + 1) := Nat.lt_of_lt_of_le h (Nat.pow_le_pow_right (by decide) (by omega))
 have h2 := (z4a n (k + 1) (by omega)).2 h1
 exact wt4 (k := 4194304) (by omega) (Nat.le_refl _)
theorem wg7 : ∀ (m n : Nat) (out : List Nat), n < 9223372036854775808 -> (cn n).length < m -> out.length + (cn n).length <= 10000000 ->
  zo9 m (n : Int) (zs out) = some (.exit (zs (out ++ cn n), ()))
 | 0, n, out, h1, h2, h3 => by omega
 | m + 1, n, out, h1, h2, h3 => by
  simp only [zo9]
  by_cases h0 : n = 0
  ·subst h0
   rw [if_neg (by decide), z53, List.append_nil]
  ·rw [y4m h0, List.length_cons] at h2 h3
   rw [if_pos (by simp; omega), z1g, if_pos (by omega), w2r, w2t, v3m (by omega), ye3 (by omega), y3m, wg7 m (n / 1000000000) (out ++ [n % 1000000000]) (by omega) (by omega) (by simp; omega), y4m h0, List.append_assoc]
   rfl
theorem v2t {n : Nat} (h : n < 9223372036854775808) : z6g fuel (n : Int) = some (zs (cn n)) := by
 unfold z6g
 have hf := y04
 have hl : (cn n).length <= 19 := wm2 (k := 19) (Nat.lt_of_lt_of_le h (by decide))
 have := wg7 fuel n [] h (by omega) (by simp; omega)
 have : zo9 fuel (n : Int) [] = _ := this
 rw [this]
 rfl
theorem of_one : z6g fuel 1 = some (zs (cn 1)) := v2t (n := 1) (by decide)
end Go.Proofs.YtcdcoeofhnfjdabGreatDoor
namespace Go.Proofs.YtcdcoeofhnfjdabGreatDoor
open Go Vm
abbrev Qd := Bool × ((List Int) × (List Int))
theorem wu3 {r : Rat} {q : Qd} (h : QR r q) : ((q.2.1.length : Int) == 0) = decide (r = 0) := by
 rw [h.2.1, z1g, Bool.eq_iff_iff, beq_iff_eq, decide_eq_true_eq, <- Rat.num_eq_zero]
 constructor
 ·intro e
  have : (cn r.num.natAbs).length = 0 := by omega
  have := w3z.1 this
  omega
 ·intro e
  rw [e]
  show (((cn 0).length : Nat) : Int) = 0
  rw [z53]; rfl
theorem y3f {r : Rat} {q : Qd} (h : QR r q) (h0 : r = 0) : ((q.2.1.length : Int) == 0) = true := by rw [wu3 h]; simpa using h0
theorem y18 {r : Rat} {q : Qd} (h : QR r q) (h0 : r ≠ 0) : ((q.2.1.length : Int) == 0) = false := by rw [wu3 h]; simpa using h0
theorem zx2 {r : Rat} {q : Qd} (h : QR r q) : z36 fuel q = some (zs (cn r.den)) := by
 unfold z36
 rcases h.2.2 with e | ⟨h0, e⟩
 ·have := zb8 r.den_nz
  rw [if_neg (fun x => by have := beq_iff_eq.1 x; rw [e, z1g] at this; omega), e]
 ·subst h0
  rw [if_pos (by rw [e]; rfl), of_one, Option.bind_some]
  rfl
theorem wr4 {r : Rat} {q : Qd} (h : QR r q) (h0 : r ≠ 0) : q.2.2 = zs (cn r.den) := h.2.2.elim id fun x => absurd x.1 h0
theorem w1y (neg : Bool) {p d : Nat} (hp : Sz p) (hd : Sz d) (h0 : 0 < d) : ∃ q, zj6 fuel neg (zs (cn p)) (zs (cn d)) = some q /\ QR (mkRat (sgn neg p) d) q := by
 unfold zj6
 by_cases h : p = 0
 ·subst h
  refine ⟨(false, [], []), ?_, ?_⟩
  ·rw [z53, if_pos (by rfl)]
  ·rw [wq5, yk7]; exact y3g
 ·have hg : 0 < Nat.gcd p d := Nat.gcd_pos_of_pos_right _ h0
  have hgd : Nat.gcd p d <= d := Nat.le_of_dvd h0 (Nat.gcd_dvd_right p d)
  have hs1 : Sz 1 := ym2 h0 hd
  have hpl := zb8 h
  rw [if_neg (fun x => by have := beq_iff_eq.1 x; rw [z1g] at this; omega), wd6 hp hd, Option.bind_some, of_one, Option.bind_some, w5t (ym2 hgd hd) hs1, Option.bind_some]
  have hq := v1u neg h (show d ≠ 0 by omega)
  by_cases h1 : 1 < Nat.gcd p d
  ·rw [if_neg (show ¬ Nat.gcd p d < 1 by omega), if_pos h1, if_pos (by decide), w60 hp (ym2 hgd hd) hg, Option.bind_some, w60 hd (ym2 hgd hd) hg, Option.bind_some]
   exact ⟨_, rfl, hq⟩
  ·have hg1 : Nat.gcd p d = 1 := by omega
   rw [hg1, if_neg (by decide)]
   rw [hg1, Nat.div_one, Nat.div_one] at hq
   exact ⟨_, rfl, hq⟩
theorem v08 {a : Bool} {p q : Nat} : sgn a (p + q) = sgn a p + sgn a q := by cases a <;> simp [sgn]; omega
theorem wj1 {a b : Bool} {p q : Nat} (hab : (a == b) = false) (h : q <= p) : sgn a (p - q) = sgn a p + sgn b q := by
 cases a <;> cases b <;> simp [sgn] at hab ⊢ <;> omega
theorem w5b (a : Bool) (p q : Nat) : sgn a (p * q) = sgn a p * (q : Int) := by cases a <;> simp [sgn, Int.neg_mul]
theorem w4y {r s : Rat} {x y : Qd} {k l : Nat} (hx : QR r x) (hy : QR s y) (hr : Dr k r) (hs : Dr l s) (hk : k + l <= 37000000) : ∃ z, z5m fuel x y = some z /\ QR (r + s) z := by
 unfold z5m
 by_cases h1 : r = 0
 ·rw [if_pos (y3f hx h1)]
  refine ⟨y, rfl, ?_⟩
  rw [h1, Rat.zero_add]; exact hy
 rw [if_neg (by rw [y18 hx h1]; simp)]
 by_cases h2 : s = 0
 ·rw [if_pos (y3f hy h2)]
  refine ⟨x, rfl, ?_⟩
  rw [h2, Rat.add_zero]; exact hx
 rw [if_neg (by rw [y18 hy h2]; simp)]
 have b1 := y1s hr.1 hs.2
 have b2 := y1s hs.1 hr.2
 have b3 := y1s hr.2 hs.2
 have b4 : r.num.natAbs * s.den + s.num.natAbs * r.den < 10 ^ (k + l + 1) := wt5 b1 (by rw [Nat.add_comm k l]; exact b2)
 have z1 : Sz (r.num.natAbs * s.den) := zk5 b1 (by omega)
 have z2 : Sz (s.num.natAbs * r.den) := zk5 b2 (by omega)
 have z3 : Sz (r.den * s.den) := zk5 b3 (by omega)
 have z4 : Sz (r.num.natAbs * s.den + s.num.natAbs * r.den) := zk5 b4 (by omega)
 have hd : 0 < r.den * s.den := Nat.mul_pos (Nat.pos_of_ne_zero r.den_nz) (Nat.pos_of_ne_zero s.den_nz)
 have hval : r + s = mkRat (sgn x.1 (r.num.natAbs * s.den) + sgn y.1 (s.num.natAbs * r.den)) (r.den * s.den) := by
  rw [Rat.add_def', w5b, w5b, hx.1, hy.1, y96, y96]
 rw [zx2 hy, Option.bind_some, hx.2.1, y7o (zk5 hr.1 (by omega)) (zk5 hs.2 (by omega)), Option.bind_some, zx2 hx, Option.bind_some, hy.2.1, y7o (zk5 hs.1 (by omega)) (zk5 hr.2 (by omega)), Option.bind_some, Option.bind_some, Option.bind_some, y7o (zk5 hr.2 (by omega)) (zk5 hs.2 (by omega)), Option.bind_some]
 by_cases hab : (x.1 == y.1) = true
 ·rw [if_pos hab, v0u z1 z2, Option.bind_some]
  obtain ⟨z, e, hz⟩ := w1y x.1 z4 z3 hd
  rw [e, Option.bind_some]
  refine ⟨z, rfl, ?_⟩
  rw [hval, <- beq_iff_eq.1 hab, <- v08]; exact hz
 ·have hab' : (x.1 == y.1) = false := by simpa using hab
  rw [if_neg hab, w5t z1 z2, Option.bind_some]
  by_cases hlt : r.num.natAbs * s.den < s.num.natAbs * r.den
  ·rw [if_pos hlt, if_neg (by decide), wu8 z2 (by omega), Option.bind_some]
   obtain ⟨z, e, hz⟩ := w1y y.1 (ym2 (Nat.sub_le _ (r.num.natAbs * s.den)) z2) z3 hd
   rw [e, Option.bind_some]
   refine ⟨z, rfl, ?_⟩
   rw [hval, Int.add_comm, <- wj1 (by cases h : x.1 <;> cases h' : y.1 <;> simp [h, h'] at hab' ⊢) (by omega)]; exact hz
  ·rw [if_neg hlt, if_pos (by split <;> decide), wu8 z1 (by omega), Option.bind_some]
   obtain ⟨z, e, hz⟩ := w1y x.1 (ym2 (Nat.sub_le _ (s.num.natAbs * r.den)) z1) z3 hd
   rw [e, Option.bind_some]
   refine ⟨z, rfl, ?_⟩
   rw [hval, <- wj1 hab' (by omega)]; exact hz
theorem yl2 {r : Rat} {x : Qd} (hx : QR r x) : ∃ z, z80 fuel x = some z /\ QR (-r) z := by
 unfold z80
 by_cases h1 : r = 0
 ·rw [if_pos (y3f hx h1)]
  refine ⟨x, rfl, ?_⟩
  rw [h1] at hx ⊢
  exact hx
 ·rw [if_neg (by rw [y18 hx h1]; simp)]
  refine ⟨_, rfl, ?_, ?_, ?_⟩
  ·show (!x.1) = _
   have hn : r.num ≠ 0 := fun e => h1 (Rat.num_eq_zero.1 e)
   rw [hx.1, Rat.neg_num]
   by_cases h : r.num < 0
   ·rw [show decide (r.num < 0) = true by simpa using h, show decide (-r.num < 0) = false by simp; omega]; rfl
   ·rw [show decide (r.num < 0) = false by simpa using h, show decide (-r.num < 0) = true by simp; omega]; rfl
  ·rw [Rat.neg_num, Int.natAbs_neg]; exact hx.2.1
  ·have e := wr4 hx h1
   rw [Rat.neg_den]; exact .inl e
theorem y3h {r s : Rat} {x y : Qd} {k l : Nat} (hx : QR r x) (hy : QR s y) (hr : Dr k r) (hs : Dr l s) (hk : k + l <= 37000000) : ∃ z, z4b fuel x y = some z /\ QR (r - s) z := by
 unfold z4b
 obtain ⟨z, e, hz⟩ := yl2 hy
 rw [e, Option.bind_some]
 obtain ⟨u, e', hu⟩ := w4y hx hz hr (y74 hs) hk
 rw [e', Option.bind_some]
 exact ⟨u, rfl, by rw [Rat.sub_eq_add_neg]; exact hu⟩
theorem z9v {r : Rat} {x : Qd} (hx : QR r x) : z31 fuel x = some r.num.sign := by
 unfold z31
 by_cases h1 : r = 0
 ·rw [if_pos (y3f hx h1), h1]; rfl
 ·have hn : r.num ≠ 0 := fun e => h1 (Rat.num_eq_zero.1 e)
  rw [if_neg (by rw [y18 hx h1]; simp), hx.1]
  by_cases h : r.num < 0
  ·rw [if_pos (by simpa using h), Int.sign_eq_neg_one_of_neg h]
  ·rw [if_neg (by simpa using h), Int.sign_eq_one_of_pos (by omega)]
theorem w4z {r s : Rat} {x y : Qd} {k l : Nat} (hx : QR r x) (hy : QR s y) (hr : Dr k r) (hs : Dr l s) (hk : k + l <= 37000000) : z4w fuel x y = some (r - s).num.sign := by
 unfold z4w
 obtain ⟨z, e, hz⟩ := y3h hx hy hr hs hk
 rw [e, Option.bind_some, z9v hz, Option.bind_some]
theorem y65 {r s : Rat} {x y : Qd} {k l : Nat} (hx : QR r x) (hy : QR s y) (hr : Dr k r) (hs : Dr l s) (hk : k + l <= 37000000) : ∃ z, z2n fuel x y = some z /\ QR (r * s) z := by
 unfold z2n
 by_cases h1 : r = 0
 ·rw [if_neg (by rw [y3f hx h1]; simp)]
  refine ⟨_, rfl, ?_⟩
  rw [h1, Rat.zero_mul]; exact y3g
 rw [if_pos (y18 hx h1)]
 by_cases h2 : s = 0
 ·rw [if_pos (y3f hy h2)]
  refine ⟨_, rfl, ?_⟩
  rw [h2, Rat.mul_zero]; exact y3g
 rw [if_neg (by rw [y18 hy h2]; simp)]
 have z1 := zk5 (y1s hr.1 hs.1) (by omega)
 have z2 := zk5 (y1s hr.2 hs.2) (by omega)
 have hd : 0 < r.den * s.den := Nat.mul_pos (Nat.pos_of_ne_zero r.den_nz) (Nat.pos_of_ne_zero s.den_nz)
 obtain ⟨z, e, hz⟩ := w1y (x.1 != y.1) z1 z2 hd
 have hval : r * s = mkRat (sgn (x.1 != y.1) (r.num.natAbs * s.num.natAbs)) (r.den * s.den) := by
  rw [Rat.mul_def', wj0, hx.1, hy.1, y96, y96]
 rw [hx.2.1, hy.2.1, y7o (zk5 hr.1 (by omega)) (zk5 hs.1 (by omega)), Option.bind_some, zx2 hx, Option.bind_some, zx2 hy, Option.bind_some, y7o (zk5 hr.2 (by omega)) (zk5 hs.2 (by omega)), Option.bind_some]
 have hb : (!(x.1 == y.1)) = (x.1 != y.1) := rfl
 rw [hb, e, Option.bind_some]
 exact ⟨z, rfl, by rw [hval]; exact hz⟩
theorem ww6 {r s : Rat} (hs : s ≠ 0) : r / s = mkRat (sgn (decide (r.num < 0) != decide (s.num < 0)) (r.num.natAbs * s.den)) (r.den * s.num.natAbs) := by
 have hn : s.num ≠ 0 := fun e => hs (Rat.num_eq_zero.1 e)
 rw [Rat.div_def, <- Rat.mkRat_self s⁻¹, Rat.num_inv, Rat.den_inv, if_neg hn]
 conv => lhs; rw [<- Rat.mkRat_self r]
 rw [Rat.mkRat_mul_mkRat, w5b]
 congr 1
 rw [<- Int.mul_assoc]
 congr 1
 conv => lhs; rw [<- y96 r]
 have : s.num.sign = sgn (decide (s.num < 0)) 1 := by
  by_cases h : s.num < 0
  ·rw [show decide (s.num < 0) = true by simpa using h, Int.sign_eq_neg_one_of_neg h]; rfl
  ·rw [show decide (s.num < 0) = false by simpa using h, Int.sign_eq_one_of_pos (by omega)]; rfl
 rw [this, <- wj0, Nat.mul_one]
theorem yl3 {r s : Rat} {x y : Qd} {k l : Nat} (hx : QR r x) (hy : QR s y) (hr : Dr k r) (hs : Dr l s) (hk : k + l <= 37000000) (h2 : s ≠ 0) : ∃ z, z5n fuel x y = some z /\ QR (r / s) z := by
 unfold z5n
 by_cases h1 : r = 0
 ·rw [if_neg (by rw [y3f hx h1]; simp)]
  refine ⟨_, rfl, ?_⟩
  rw [h1, Rat.div_def, Rat.zero_mul]; exact y3g
 rw [if_pos (y18 hx h1), if_neg (by rw [y18 hy h2]; simp)]
 have hn : s.num ≠ 0 := fun e => h2 (Rat.num_eq_zero.1 e)
 have z1 := zk5 (y1s hr.1 hs.2) (by omega)
 have z2 := zk5 (y1s hr.2 hs.1) (by omega)
 have hd : 0 < r.den * s.num.natAbs := Nat.mul_pos (Nat.pos_of_ne_zero r.den_nz) (by omega)
 obtain ⟨z, e, hz⟩ := w1y (x.1 != y.1) z1 z2 hd
 rw [zx2 hy, Option.bind_some, hx.2.1, y7o (zk5 hr.1 (by omega)) (zk5 hs.2 (by omega)), Option.bind_some, zx2 hx, Option.bind_some, hy.2.1, y7o (zk5 hr.2 (by omega)) (zk5 hs.1 (by omega)), Option.bind_some]
 have hb : (!(x.1 == y.1)) = (x.1 != y.1) := rfl
 rw [hb, e, Option.bind_some]
 refine ⟨z, rfl, ?_⟩
 rw [ww6 h2, <- hx.1, <- hy.1]; exact hz
end Go.Proofs.YtcdcoeofhnfjdabGreatDoor
namespace Go.Proofs.YtcdcoeofhnfjdabGreatDoor
open Go Vm
theorem w5u (r : List Nat) (h : By r) (hs : r.length <= 1000000000000000) : z2o fuel (sb (45 :: r)) (⟨#[45]⟩ : ByteArray) = some (sb r, true) := by
 have e45 : (⟨#[45]⟩ : ByteArray) = sb [45] := rfl
 have hb : By (45 :: r) := fun c hc => by
  rcases List.mem_cons.1 hc with rfl | hc
  ·decide
  ·exact h c hc
 have hb1 : By [45] := fun c hc => by rw [List.mem_singleton] at hc; omega
 have s1 : ((sb [45]).size : Int) = 1 := rfl
 have s2 : ((sb (45 :: r)).size : Int) = (r.length : Int) + 1 := by rw [z4d]; rfl
 unfold z2o z57 z58
 rw [e45]
 simp only [s1, s2]
 rw [if_pos (by simp only [decide_eq_true_eq]; omega), if_pos (by omega), if_pos (by omega), zh8, show ((45 :: r).take (1 : Int).toNat).drop 0 = [45] from rfl, w8v hb1 hb1, Option.bind_some, if_neg (by decide), if_pos (by omega), if_pos (by omega), zh8, z4d, List.take_length]
 rfl
theorem wb0 (l : List Nat) (h : By l) (h0 : l.head? ≠ some 45) (hs : l.length <= 1000000000000000) : z2o fuel (sb l) (⟨#[45]⟩ : ByteArray) = some (sb l, false) := by
 have e45 : (⟨#[45]⟩ : ByteArray) = sb [45] := rfl
 have hb1 : By [45] := fun c hc => by rw [List.mem_singleton] at hc; omega
 have s1 : ((sb [45]).size : Int) = 1 := rfl
 unfold z2o z57 z58
 rw [e45]
 simp only [s1]
 simp only [z4d]
 cases l with
 | nil =>
  rw [if_neg (by decide), Option.bind_some, if_pos (by rfl), Option.bind_some]
 | cons c r =>
  have hc : By [c] := fun d hd => by rw [List.mem_singleton] at hd; subst hd; exact h d (List.mem_cons_self ..)
  have hl : ((c :: r).length : Int) = (r.length : Int) + 1 := rfl
  rw [hl, if_pos (by simp only [decide_eq_true_eq]; omega), if_pos (by omega), if_pos (by omega), zh8, show ((c :: r).take (1 : Int).toNat).drop 0 = [c] from rfl, w8v hc hb1, Option.bind_some, if_pos, Option.bind_some]
  have : c ≠ 45 := fun e => h0 (by rw [e]; rfl)
  simp [this]
theorem w6f : ∀ (p r : List Nat), By p -> 47 ∉ p -> Lib.indexByte ((p ++ 47 :: r).map UInt8.ofNat) 47 = (p.length : Int)
 | [], r, _, _ => by simp [Lib.indexByte]
 | c :: p, r, hb, h => by
  have hc : c < 256 := hb c (List.mem_cons_self ..)
  have hne : (UInt8.ofNat c == 47) = false := by
   have : UInt8.ofNat c ≠ 47 := fun e => by
    have h3 := congrArg UInt8.toNat e
    have h4 : (UInt8.ofNat c).toNat = c := UInt8.toNat_ofNat_of_lt hc
    have h5 : UInt8.toNat 47 = 47 := rfl
    have h6 : c = 47 := by omega
    exact h (by rw [h6]; exact List.mem_cons_self ..)
   simpa using this
  have ih := w6f p r (fun d hd => hb d (List.mem_cons_of_mem _ hd)) fun hm => h (List.mem_cons_of_mem _ hm)
  have h2 : ((p.length : Int) == -1) = false := by simp
  simp only [List.cons_append, List.map_cons, Lib.indexByte, hne, Bool.false_eq_true, if_false, ih, h2]
  simp
theorem w6g : ∀ (p : List Nat), By p -> 47 ∉ p -> Lib.indexByte (p.map UInt8.ofNat) 47 = -1
 | [], _, _ => rfl
 | c :: p, hb, h => by
  have hc : c < 256 := hb c (List.mem_cons_self ..)
  have hne : (UInt8.ofNat c == 47) = false := by
   have : UInt8.ofNat c ≠ 47 := fun e => by
    have h3 := congrArg UInt8.toNat e
    have h4 : (UInt8.ofNat c).toNat = c := UInt8.toNat_ofNat_of_lt hc
    have h5 : UInt8.toNat 47 = 47 := rfl
    have h6 : c = 47 := by omega
    exact h (by rw [h6]; exact List.mem_cons_self ..)
   simpa using this
  have ih := w6g p (fun d hd => hb d (List.mem_cons_of_mem _ hd)) fun hm => h (List.mem_cons_of_mem _ hm)
  simp only [List.map_cons, Lib.indexByte, hne, Bool.false_eq_true, if_false, ih]
  rfl
theorem w1m (l : List Nat) : Vm.stdIndex (sb l) (⟨#[47]⟩ : ByteArray) = some (Lib.indexByte (l.map UInt8.ofNat) 47) := by
 unfold Vm.stdIndex
 have : (sb l).data.toList = l.map UInt8.ofNat := by simp [sb]
 rw [if_pos (by decide), this]
 rfl
theorem wa9 (p r : List Nat) (hp : By p) (h : 47 ∉ p) (hs : p.length + r.length <= 1000000000000000) : z5y fuel (sb (p ++ 47 :: r)) (⟨#[47]⟩ : ByteArray) = some (sb p, sb r, true) := by
 unfold z5y z8h
 have s1 : (((⟨#[47]⟩ : ByteArray).size : Nat) : Int) = 1 := rfl
 have s2 : ((sb (p ++ 47 :: r)).size : Int) = ((p.length + r.length + 1 : Nat) : Int) := by rw [z4d, List.length_append, List.length_cons]; omega
 have w1 : IntKind.i64.wrap ((p.length : Int) + 1) = ((p.length + 1 : Nat) : Int) := by rw [w64 _ (by omega) (by omega)]; omega
 rw [w1m, w6f p r hp h, Option.bind_some]
 simp only [s1, s2, w1]
 rw [if_pos (by simp), if_pos (by omega), if_pos (by omega), if_pos (by omega), if_pos (by omega), zh8, zh8, Int.toNat_natCast, Int.toNat_natCast, Option.bind_some, List.drop_zero, List.take_left, z4d, List.take_length]
 congr 3
 rw [List.drop_append, List.drop_of_length_le (by omega), List.nil_append, show p.length + 1 - p.length = 1 by omega]
 rfl
theorem ws2 (p : List Nat) (hp : By p) (h : 47 ∉ p) : z5y fuel (sb p) (⟨#[47]⟩ : ByteArray) = some (sb p, (⟨#[]⟩ : ByteArray), false) := by
 unfold z5y z8h
 rw [w1m, w6g p hp h, Option.bind_some, if_neg (by decide), Option.bind_some]
theorem v3e (n : Nat) : 47 ∉ dt n := fun h => by have := v1b h; omega
theorem y7v (r : Rat) (hs : (rtb r).length <= 1000000000) : ∃ rest, z2o fuel (rt r) (⟨#[45]⟩ : ByteArray) = some (sb rest, decide (r.num < 0)) /\
  z5y fuel (sb rest) (⟨#[47]⟩ : ByteArray) = some (txt r.num.natAbs, (if r.den = 1 then (⟨#[]⟩ : ByteArray) else txt r.den), !decide (r.den = 1)) := by
 have hb := v0y r
 refine ⟨dt r.num.natAbs ++ (if r.den = 1 then [] else 47 :: dt r.den), ?_, ?_⟩
 ·unfold rt
  by_cases h : r.num < 0
  ·have e : rtb r = 45 :: (dt r.num.natAbs ++ (if r.den = 1 then [] else 47 :: dt r.den)) := by unfold rtb; rw [if_pos h]; rfl
   rw [e] at hb hs ⊢
   rw [w5u _ (fun c hc => hb c (List.mem_cons_of_mem _ hc)) (by simp only [List.length_cons] at hs; omega), show decide (r.num < 0) = true by simpa using h]
  ·have e : rtb r = dt r.num.natAbs ++ (if r.den = 1 then [] else 47 :: dt r.den) := by unfold rtb; rw [if_neg h]; rfl
   rw [e] at hb hs ⊢
   rw [wb0 _ hb ?_ (by omega), show decide (r.num < 0) = false by simpa using h]
   cases hd : dt r.num.natAbs with
   | nil => exact absurd hd (v1a _)
   | cons c l =>
    intro e
    have := v1b (n := r.num.natAbs) (c := c) (by rw [hd]; exact List.mem_cons_self ..)
    simp only [List.cons_append, List.head?_cons, Option.some.injEq] at e
    omega
 ·have hl : (dt r.num.natAbs).length + (if r.den = 1 then ([] : List Nat) else 47 :: dt r.den).length <= 1000000000 := by
   unfold rtb at hs
   simp only [List.length_append] at hs
   omega
  by_cases h : r.den = 1
  ·rw [if_pos h, if_pos h, List.append_nil, ws2 _ (yg7 _) (v3e _), show decide (r.den = 1) = true by simpa using h]
   rfl
  ·rw [if_neg h, if_neg h]
   rw [if_neg h] at hl
   simp only [List.length_cons] at hl
   rw [wa9 _ _ (yg7 _) (v3e _) (by omega), show decide (r.den = 1) = false by simpa using h]
   rfl
def OkR (r : Rat) : Prop := Ok r.num.natAbs /\ Ok r.den
instance (r : Rat) : Decidable (OkR r) := inferInstanceAs (Decidable (Ok r.num.natAbs /\ Ok r.den))
theorem w4u {r : Rat} (h : OkR r) : (rtb r).length <= 4002 := by
 unfold rtb
 have h1 := h.1; have h2 := h.2
 unfold Ok at h1 h2
 have l1 : (dt r.num.natAbs).length = (dig r.num.natAbs).length := by rw [dt, List.length_map]
 have l2 : (dt r.den).length = (dig r.den).length := by rw [dt, List.length_map]
 simp only [List.length_append]
 have a1 : (if r.num < 0 then [45] else ([] : List Nat)).length <= 1 := by split <;> simp
 have a2 : (if r.den = 1 then ([] : List Nat) else 47 :: dt r.den).length <= 2001 := by
  split
  ·simp
  ·simp only [List.length_cons]; omega
 omega
theorem y1t {r : Rat} (h : OkR r) : Dr 2000 r := ⟨(z4a _ 2000 (by decide)).1 h.1, (z4a _ 2000 (by decide)).1 h.2⟩
theorem y1k {r : Rat} {k : Nat} (h : Dr k r) (h1 : 1 <= k) (hk : k <= 2000) : OkR r := ⟨wp6 h.1 h1 hk, wp6 h.2 h1 hk⟩
theorem w1l {r : Rat} (h : OkR r) : ∃ q, z7n fuel (rt r) = some q /\ QR r q := by
 unfold z7n
 obtain ⟨rest, e1, e2⟩ := y7v r (by have := w4u h; omega)
 rw [e1, Option.bind_some, e2, Option.bind_some, y3w h.1, Option.bind_some, of_one, Option.bind_some]
 by_cases hd : r.den = 1
 ·rw [if_neg (by simp [hd])]
  refine ⟨_, rfl, rfl, rfl, .inl ?_⟩
  rw [hd]
 ·rw [if_pos (by simp [hd])]
  simp only [if_neg hd]
  rw [y3w h.2, Option.bind_some]
  exact ⟨_, rfl, rfl, rfl, .inl rfl⟩
theorem txt_one : (⟨#[49]⟩ : ByteArray) = txt 1 := by
 have : dt 1 = [49] := by
  unfold dt dig
  rw [if_neg (by decide), y2l (by decide), show 1 / 10 = 0 from rfl, zi3]; rfl
 unfold txt
 rw [this]
 rfl
theorem w24 {r : Rat} {q : Qd} {k : Nat} (h : QR r q) (hr : Dr k r) (hk : k <= 4194304) : z6u fuel q = some (rt r) := by
 unfold z6u
 by_cases h0 : r = 0
 ·rw [if_pos (y3f h h0), h0, txt_zero]
  exact congrArg some (wi4 0).symm
 rw [if_neg (by rw [y18 h h0]; simp)]
 have z1 := zk5 hr.1 (by omega)
 have z2 := zk5 hr.2 (by omega)
 have l1 : (dt r.num.natAbs).length <= 4194304 := by
  rw [dt, List.length_map]
  by_cases hk0 : k = 0
  ·have := hr.2; rw [hk0] at this; have := r.den_nz; simp at *; omega
  ·exact Nat.le_trans ((z4a _ k (by omega)).2 hr.1) hk
 have l2 : (dt r.den).length <= 4194304 := by
  rw [dt, List.length_map]
  by_cases hk0 : k = 0
  ·have := hr.2; rw [hk0] at this; have := r.den_nz; simp at *; omega
  ·exact Nat.le_trans ((z4a _ k (by omega)).2 hr.2) hk
 have e45 : (⟨#[45]⟩ : ByteArray) = sb [45] := rfl
 have e47 : (⟨#[47]⟩ : ByteArray) = sb [47] := rfl
 have t1 : txt r.num.natAbs = sb (dt r.num.natAbs) := rfl
 have t2 : txt r.den = sb (dt r.den) := rfl
 rw [h.2.1, yz4 _ (sz8 z1), Option.bind_some, txt_one, h.1, e45, e47]
 unfold rt rtb
 by_cases hn : r.num < 0
 ·rw [if_pos (by simpa using hn), if_pos hn, if_pos (by rw [t1, z4d, z4d]; simp only [List.length_cons, List.length_nil]; omega), zx2 h, Option.bind_some, yz4 _ (sz8 z2), Option.bind_some, y5c]
  by_cases hd : r.den = 1
  ·rw [if_neg (by simp [hd]), if_pos hd, t1, y0f, List.append_nil]
  ·rw [if_pos (by simp [hd]), if_neg hd, if_pos (by rw [t2, z4d, z4d]; simp only [List.length_cons, List.length_nil]; omega), t1, t2, y0f, y0f, if_pos (by rw [z4d, z4d]; simp only [List.length_cons, List.length_nil, List.length_append]; omega), y0f, List.append_assoc]
   rfl
 ·rw [if_neg (by simpa using hn), if_neg hn, zx2 h, Option.bind_some, yz4 _ (sz8 z2), Option.bind_some, y5c]
  by_cases hd : r.den = 1
  ·rw [if_neg (by simp [hd]), if_pos hd, t1, List.append_nil, List.nil_append]
  ·rw [if_pos (by simp [hd]), if_neg hd, if_pos (by rw [t2, z4d, z4d]; simp only [List.length_cons, List.length_nil]; omega), t1, t2, y0f, if_pos (by rw [z4d, z4d]; simp only [List.length_cons, List.length_nil, List.length_append]; omega), y0f, List.nil_append]
   rfl
theorem yh7 {n : Nat} (h : (cn n).length <= 8388608) : z7d fuel (zs (cn n)) = some ((dig n).length : Int) := by
 unfold z7d
 rw [yz4 n h, Option.bind_some, w7e]
theorem y8r {r : Rat} {q : Qd} {k : Nat} (h : QR r q) (hr : Dr k r) (hk : k <= 4194304) : z8f fuel q = some (if OkR r then 0 else 2) := by
 unfold z8f
 have z1 := zk5 hr.1 (by omega)
 have z2 := zk5 hr.2 (by omega)
 rw [h.2.1, yh7 (sz8 z1), Option.bind_some]
 by_cases h1 : Ok r.num.natAbs
 ·have h1' := h1
  unfold Ok at h1'
  rw [if_pos (by simp only [decide_eq_false_iff_not]; omega)]
  rcases h.2.2 with e | ⟨h0, e⟩
  ·rw [e, yh7 (sz8 z2), Option.bind_some]
   by_cases h2 : Ok r.den
   ·have h2' := h2
    unfold Ok at h2'
    rw [if_neg (by simp only [decide_eq_true_eq]; omega), if_pos ⟨h1, h2⟩]
   ·have h2' := h2
    unfold Ok at h2'
    rw [if_pos (by simp only [decide_eq_true_eq]; omega), if_neg (fun x => h2 x.2)]
  ·have hd : z7d fuel q.2.2 = some 1 := by
    have := yh7 (n := 0) (by rw [z53]; decide)
    rw [e, <- show zs (cn 0) = ([] : List Int) by rw [z53]; rfl, this]
    rfl
   rw [hd, Option.bind_some, if_neg (by decide), if_pos ⟨h1, by rw [h0]; exact wp6 (k := 1) (by decide) (by decide) (by decide)⟩]
 ·have h1' := h1
  unfold Ok at h1'
  rw [if_neg (by simp only [decide_eq_false_iff_not]; omega), if_neg (fun x => h1 x.1)]
theorem wk2 {r : Rat} {q : Qd} {k : Nat} (h : QR r q) (hr : Dr k r) (hk : k <= 4194304) : z8g fuel q = some (if OkR r then (rt r, 0) else (⟨#[]⟩, 2)) := by
 unfold z8g
 rw [y8r h hr hk, Option.bind_some]
 by_cases ho : OkR r
 ·rw [if_pos ho, if_neg (by decide), w24 h hr hk, Option.bind_some, if_pos ho]
 ·rw [if_neg ho, if_pos (by decide), if_neg ho]
end Go.Proofs.YtcdcoeofhnfjdabGreatDoor
namespace Go.Proofs.YtcdcoeofhnfjdabGreatDoor
open Go Vm
theorem wa2 {n : Nat} (h : Sz n) (h0 : 0 < n) : z4u fuel (zs (cn n)) (zs (cn 1)) = some (if n = 1 then 0 else 1) := by
 rw [w5t h (ym2 h0 h), if_neg (show ¬ n < 1 by omega)]
 by_cases h1 : n = 1
 ·rw [if_neg (by omega), if_pos h1]
 ·rw [if_pos (by omega), if_neg h1]
theorem yl4 {r : Rat} (h : OkR r) : z7z fuel (rt r) = some 0 := by
 unfold z7z
 obtain ⟨rest, e1, e2⟩ := y7v r (by have := w4u h; omega)
 rw [e1, Option.bind_some, e2, Option.bind_some, w14 h.1, Option.bind_some]
 by_cases hd : r.den = 1
 ·have b : (!decide (r.den = 1)) = false := by simp [hd]
  simp only [b, Bool.false_eq_true, if_false]
  by_cases hn : r.num < 0
  ·have b2 : decide (r.num < 0) = true := by simpa using hn
   rw [if_pos (by decide)]
   simp only [b2, if_true]
   rw [txt_zero, y5c, if_neg (by rw [decide_eq_true_eq]; omega), if_pos (by decide)]
  ·have b2 : decide (r.num < 0) = false := by simpa using hn
   rw [if_pos (by decide)]
   simp only [b2, Bool.false_eq_true, if_false]
   rw [if_pos (by decide)]
 ·have b : (!decide (r.den = 1)) = true := by simp [hd]
  have hz : Sz r.num.natAbs := wg8 h.1
  have hz2 : Sz r.den := wg8 h.2
  have h0 := r.den_nz
  have hg : Nat.gcd r.num.natAbs r.den = 1 := r.reduced
  have tail : (z3w fuel (txt r.num.natAbs)).bind (fun r5 => (z3w fuel (txt r.den)).bind fun r6 => (z6t fuel r5 r6).bind fun r7 => (z6g fuel 1).bind fun r8 => (z4u fuel r7 r8).bind fun r9 => if (r9 != 0) = true then some 3 else some 0) = some (0 : Int) := by
   rw [y3w h.1, Option.bind_some, y3w h.2, Option.bind_some, wd6 hz hz2, Option.bind_some, of_one, Option.bind_some, hg, wa2 (ym2 (by omega) hz2) (by decide), Option.bind_some]
   rfl
  simp only [b, if_true, if_neg hd]
  rw [w14 h.2, Option.bind_some, if_pos (by decide), if_pos (by decide)]
  by_cases hn : r.num < 0
  ·have b2 : decide (r.num < 0) = true := by simpa using hn
   simp only [b2, if_true]
   rw [txt_zero, y5c, if_neg (by rw [decide_eq_true_eq]; omega), if_pos (by decide), if_neg (by decide), y5c, if_pos (by simpa using h0), txt_one, y5c, if_pos (by simpa using hd)]
   exact tail
  ·have b2 : decide (r.num < 0) = false := by simpa using hn
   simp only [b2, Bool.false_eq_true, if_false]
   rw [txt_zero, if_pos (by decide), if_neg (by decide), y5c, if_pos (by simpa using h0), txt_one, y5c, if_pos (by simpa using hd)]
   exact tail
theorem w6m {neg : Bool} {m d : Nat} (hm : m ≠ 0) (hd : d ≠ 0) (hg : Nat.gcd m d = 1) : (mkRat (sgn neg m) d).num.natAbs = m /\ (mkRat (sgn neg m) d).den = d /\ decide ((mkRat (sgn neg m) d).num < 0) = neg := by
 have := y8s neg hm hd
 rwa [hg, Nat.div_one, Nat.div_one] at this
theorem w50 (s : ByteArray) (hs : s.size <= 900000000000000) : (∃ e : Int, e ≠ 0 /\ z7z fuel s = some e) \/ ∃ r, s = rt r /\ OkR r := by
 have e := v1y s
 have hb := v0x s
 have hl : s.size = (bt s).length := by rw [<- z4d, e]
 generalize bt s = l at *
 subst e
 -- sign
 obtain ⟨neg, l', e1, hl', hsign⟩ : ∃ (neg : Bool) (l' : List Nat), z2o fuel (sb l) (⟨#[45]⟩ : ByteArray) = some (sb l', neg) /\ l'.length <= 900000000000000 /\ l = (if neg then [45] else []) ++ l' := by
  by_cases h : l.head? = some 45
  ·cases l with
   | nil => cases h
   | cons c r =>
    simp only [List.head?_cons, Option.some.injEq] at h
    subst h
    simp only [List.length_cons] at hl
    exact ⟨true, r, w5u r (fun c hc => hb c (List.mem_cons_of_mem _ hc)) (by omega), by omega, rfl⟩
  ·exact ⟨false, l, wb0 l hb h (by omega), by omega, rfl⟩
 have hb' : By l' := fun c hc => hb c (by rw [hsign]; exact List.mem_append_right _ hc)
 unfold z7z
 rw [e1, Option.bind_some]
 by_cases h47 : 47 ∈ l'
 ·obtain ⟨p, q, hpq, hp⟩ : ∃ p q, l' = p ++ 47 :: q /\ 47 ∉ p := by
   have : ∀ (l : List Nat), 47 ∈ l -> ∃ p q, l = p ++ 47 :: q /\ 47 ∉ p := by
    intro l
    induction l with
    | nil => intro h; cases h
    | cons c l ih =>
     intro h
     by_cases hc : c = 47
     ·subst hc; exact ⟨[], l, rfl, by simp⟩
     ·obtain ⟨p, q, rfl, hp⟩ := ih (by
        rcases List.mem_cons.1 h with h | h
        · exact absurd h.symm hc
        · exact h)
      refine ⟨c :: p, q, rfl, fun hm => ?_⟩
      rcases List.mem_cons.1 hm with h | h
      ·exact hc h.symm
      ·exact hp h
   exact this l' h47
  subst hpq
  simp only [List.length_append, List.length_cons] at hl'
  have hbp : By p := (y6x.1 hb').1
  have hbq : By q := fun c hc => (y6x.1 hb').2 c (List.mem_cons_of_mem _ hc)
  rw [wa9 p q hbp hp (by omega), Option.bind_some]
  simp only [if_true]
  rcases y3t (sb p) (by rw [z4d]; omega) with ⟨x, x0, ex, _⟩ | ⟨m, em, hm, ex⟩
  ·rw [ex, Option.bind_some]
   refine .inl ?_
   rcases y3t (sb q) (by rw [z4d]; omega) with ⟨y, y0, ey, _⟩ | ⟨d, ed, hd, ey⟩
   ·rw [ey, Option.bind_some]
    by_cases x5 : x = 5
    ·rw [if_neg (by simp [x5])]; exact ⟨5, by decide, rfl⟩
    rw [if_pos (by simpa using x5)]
    by_cases y5 : y = 5
    ·rw [if_neg (by simp [y5])]; exact ⟨5, by decide, rfl⟩
    rw [if_pos (by simpa using y5)]
    have k : ((x != 0) = false) = False := by simp [x0]
    simp only [k, if_false]
    split
    ·split
     ·exact ⟨5, by decide, rfl⟩
     ·exact ⟨2, by decide, rfl⟩
    ·exact ⟨2, by decide, rfl⟩
   ·rw [ey, Option.bind_some]
    by_cases x5 : x = 5
    ·rw [if_neg (by simp [x5])]; exact ⟨5, by decide, rfl⟩
    rw [if_pos (by simpa using x5), if_pos (by decide)]
    have k : ((x != 0) = false) = False := by simp [x0]
    simp only [k, if_false]
    split
    ·split
     ·exact ⟨5, by decide, rfl⟩
     ·exact ⟨2, by decide, rfl⟩
    ·exact ⟨2, by decide, rfl⟩
  ·rw [ex, Option.bind_some]
   rcases y3t (sb q) (by rw [z4d]; omega) with ⟨y, y0, ey, _⟩ | ⟨d, ed, hd, ey⟩
   ·rw [ey, Option.bind_some]
    refine .inl ?_
    rw [if_pos (by decide)]
    by_cases y5 : y = 5
    ·rw [if_neg (by simp [y5])]; exact ⟨5, by decide, rfl⟩
    rw [if_pos (by simpa using y5)]
    have k : ((y != 0) = true) = True := by simp [y0]
    simp only [k, if_true, show (((0 : Int) != 0) = false) = True by decide]
    split
    ·split
     ·exact ⟨5, by decide, rfl⟩
     ·exact ⟨2, by decide, rfl⟩
    ·exact ⟨2, by decide, rfl⟩
   ·rw [ey, Option.bind_some, if_pos (by decide), if_pos (by decide), em, ed, txt_zero, txt_one]
    simp only [y5c, show (((0 : Int) != 0) = false) = True by decide, show (((0 : Int) != 0) = true) = False by decide, if_true, if_false]
    have hom : Ok m := hm
    have hod : Ok d := hd
    have rd : 0 < Nat.gcd m d \/ (m = 0 /\ d = 0) := by
     rcases Nat.eq_zero_or_pos (Nat.gcd m d) with h | h
     ·exact .inr (Nat.gcd_eq_zero_iff.1 h)
     ·exact .inl h
    by_cases hd0 : d = 0
    ·refine .inl ?_
     have b : (decide (d = 0) = false) = False := by simp [hd0]
     simp only [b, if_false]
     split
     ·split
      ·exact ⟨5, by decide, rfl⟩
      ·exact ⟨3, by decide, rfl⟩
     ·exact ⟨3, by decide, rfl⟩
    have b0 : (decide (d = 0) = false) = True := by simp [hd0]
    by_cases hd1 : d = 1
    ·refine .inl ?_
     have b : (decide (d = 1) = false) = False := by simp [hd1]
     simp only [b0, b, if_true, if_false]
     split
     ·split
      ·exact ⟨5, by decide, rfl⟩
      ·exact ⟨3, by decide, rfl⟩
     ·exact ⟨3, by decide, rfl⟩
    have b1 : (decide (d = 1) = false) = True := by simp [hd1]
    have hgp : 0 < Nat.gcd m d := by omega
    have hgz : Sz (Nat.gcd m d) := ym2 (Nat.le_of_dvd (by omega) (Nat.gcd_dvd_right m d)) (wg8 hod)
    simp only [b0, b1, if_true]
    rw [y3w hom, Option.bind_some, y3w hod, Option.bind_some, wd6 (wg8 hom) (wg8 hod), Option.bind_some, of_one, Option.bind_some, wa2 hgz hgp, Option.bind_some]
    by_cases hg : Nat.gcd m d = 1
    ·simp only [if_pos hg, show (((0 : Int) != 0) = true) = False by decide, if_false]
     have hm0 : m ≠ 0 := fun e => by rw [e, Nat.gcd_zero_left] at hg; exact hd1 hg
     refine .inr ⟨mkRat (sgn neg m) d, ?_, ?_⟩
     ·obtain ⟨p1, p2, p3⟩ := w6m (neg := neg) hm0 hd0 hg
      have hpm : p = dt m := by
       have := congrArg bt em
       unfold txt at this
       rwa [yw2 hbp, yw2 (yg7 m)] at this
      have hqd : q = dt d := by
       have := congrArg bt ed
       unfold txt at this
       rwa [yw2 hbq, yw2 (yg7 d)] at this
      unfold rt rtb
      rw [hsign, p1, p2, hpm, hqd, if_neg hd1]
      congr 1
      cases neg
      ·rw [if_neg (show ¬ (mkRat (sgn false m) d).num < 0 by simpa using p3)]; rfl
      ·rw [if_pos (show (mkRat (sgn true m) d).num < 0 by simpa using p3)]; rfl
     ·obtain ⟨p1, p2, _⟩ := w6m (neg := neg) hm0 hd0 hg
      exact ⟨by rw [p1]; exact hom, by rw [p2]; exact hod⟩
    ·simp only [if_neg hg, show (((1 : Int) != 0) = true) = True by decide, if_true]
     refine .inl ?_
     split
     ·split
      ·exact ⟨5, by decide, rfl⟩
      ·exact ⟨3, by decide, rfl⟩
     ·exact ⟨3, by decide, rfl⟩
 ·rw [ws2 l' hb' h47, Option.bind_some]
  simp only [Bool.false_eq_true, if_false]
  rcases y3t (sb l') (by rw [z4d]; omega) with ⟨x, x0, ex, _⟩ | ⟨m, em, hm, ex⟩
  ·rw [ex, Option.bind_some]
   refine .inl ?_
   by_cases x5 : x = 5
   ·rw [if_neg (by simp [x5])]; exact ⟨5, by decide, rfl⟩
   rw [if_pos (by simpa using x5)]
   have k : ((x != 0) = false) = False := by simp [x0]
   simp only [k, if_false]
   split
   ·split
    ·exact ⟨5, by decide, rfl⟩
    ·exact ⟨2, by decide, rfl⟩
   ·exact ⟨2, by decide, rfl⟩
  ·rw [ex, Option.bind_some, if_pos (by decide), em, txt_zero]
   simp only [y5c, show (((0 : Int) != 0) = false) = True by decide, if_true]
   by_cases hbad : neg = true /\ m = 0
   ·refine .inl ⟨5, by decide, ?_⟩
    rw [if_pos hbad.1, if_pos (by simpa using hbad.2)]
   ·have hlm : l' = dt m := by
     have := congrArg bt em
     unfold txt at this
     rwa [yw2 hb', yw2 (yg7 m)] at this
    have v1 : (mkRat (sgn neg m) 1).num = sgn neg m /\ (mkRat (sgn neg m) 1).den = 1 := by
     rw [Rat.mkRat_one]; exact ⟨rfl, rfl⟩
    refine .inr ⟨mkRat (sgn neg m) 1, ?_, ?_⟩
    ·unfold rt rtb
     rw [hsign, hlm, v1.1, v1.2, yz1, if_pos rfl, List.append_nil]
     congr 1
     cases neg
     ·rw [if_neg (show ¬ sgn false m < 0 by simp [sgn])]; rfl
     ·have : m ≠ 0 := fun e => hbad ⟨rfl, e⟩
      rw [if_pos (show sgn true m < 0 by simp [sgn]; omega)]; rfl
    ·refine ⟨?_, ?_⟩
     ·rw [v1.1, yz1]; exact hm
     ·rw [v1.2]; exact wp6 (k := 1) (by decide) (by decide) (by decide)
theorem w1j (l : List Rat) (i : Nat) (h : i < l.length) : (l.map rt).getD i ByteArray.empty = rt (l.getD i 0) := by
 simp only [List.getD_eq_getElem?_getD, List.getElem?_map]
 rw [List.getElem?_eq_getElem h]; rfl
theorem y70 (l : List ByteArray) (hs : l.length <= 4611686018427387904) (hb : ∀ s, s ∈ l -> s.size <= 900000000000000) : ∀ (m i : Nat) (rs : List Rat), i <= l.length -> l.length < m + i -> l.take i = rs.map rt -> (∀ r, r ∈ rs -> OkR r) ->
  (∃ e : Int, e ≠ 0 /\ z2v m l (l.length : Int) (i : Int) = some (.ret (e, ()))) \/ ∃ rs : List Rat, l = rs.map rt /\ (∀ r, r ∈ rs -> OkR r) /\ z2v m l (l.length : Int) (i : Int) = some (.exit ())
 | 0, i, rs, h1, h2, h3, h4 => by omega
 | m + 1, i, rs, h1, h2, h3, h4 => by
  simp only [z2v]
  by_cases hi : i < l.length
  ·have e4 : IntKind.i64.wrap ((i : Int) + 1) = ((i + 1 : Nat) : Int) := by rw [w64 _ (by omega) (by omega)]; omega
   rw [if_pos (by simpa using hi), if_pos (by omega), if_pos (by omega), Int.toNat_natCast, z3d l i _ hi, e4]
   rcases w50 l[i] (hb _ (List.getElem_mem hi)) with ⟨e, e0, h⟩ | ⟨r, hr, hok⟩
   ·rw [h, Option.bind_some, if_pos (ne0 e0)]
    exact .inl ⟨e, e0, rfl⟩
   ·rw [hr, yl4 hok, Option.bind_some, if_neg (by decide)]
    refine y70 l hs hb m (i + 1) (rs ++ [r]) (by omega) (by omega) ?_ ?_
    ·rw [List.take_succ_eq_append_getElem hi, h3, hr, List.map_append]; rfl
    ·intro x hx
     rcases List.mem_append.1 hx with hx | hx
     ·exact h4 x hx
     ·rw [List.mem_singleton] at hx; rw [hx]; exact hok
  ·rw [if_neg (by simpa using hi)]
   refine .inr ⟨rs, ?_, h4, rfl⟩
   rw [<- h3, List.take_of_length_le (by omega)]
theorem yw3 (l : List ByteArray) (hs : l.length <= 4611686018427387904) (hb : ∀ s, s ∈ l -> s.size <= 900000000000000) :
  (∃ e : Int, e ≠ 0 /\ z3c fuel l = some e) \/ ∃ rs : List Rat, l = rs.map rt /\ (∀ r, r ∈ rs -> OkR r) /\ z3c fuel l = some 0 := by
 unfold z3c
 have hf := z82 (n := 2 ^ 100) (by decide)
 rcases y70 l hs hb fuel 0 [] (by omega) (by omega) rfl (fun _ h => by cases h) with ⟨e, e0, h⟩ | ⟨rs, h1, h2, h⟩
 ·have h : z2v fuel l (l.length : Int) 0 = _ := h
  rw [h]
  exact .inl ⟨e, e0, rfl⟩
 ·have h : z2v fuel l (l.length : Int) 0 = _ := h
  rw [h]
  exact .inr ⟨rs, h1, h2, rfl⟩
theorem wq4 {r : Rat} (h : OkR r) : (rt r).size <= 900000000000000 := by
 have := w4u h
 unfold rt
 rw [z4d]; omega
theorem y5o (rs : List Rat) (hs : rs.length <= 4611686018427387904) (h : ∀ r, r ∈ rs -> OkR r) : z3c fuel (rs.map rt) = some 0 := by
 unfold z3c
 have hf := z82 (n := 2 ^ 100) (by decide)
 have key : ∀ (m i : Nat), i <= rs.length -> rs.length < m + i -> z2v m (rs.map rt) ((rs.map rt).length : Int) (i : Int) = some (.exit ()) := by
  intro m
  induction m with
  | zero => intro i h1 h2; omega
  | succ m ih =>
   intro i h1 h2
   simp only [z2v, List.length_map]
   by_cases hi : i < rs.length
   ·have e4 : IntKind.i64.wrap ((i : Int) + 1) = ((i + 1 : Nat) : Int) := by rw [w64 _ (by omega) (by omega)]; omega
    rw [if_pos (by simpa using hi), if_pos (by omega), if_pos (by omega), Int.toNat_natCast, w1j rs i hi, e4, yl4 (h _ (by rw [z3d rs i 0 hi]; exact List.getElem_mem hi)), Option.bind_some, if_neg (by decide)]
    have := ih (i + 1) (by omega) (by omega)
    rw [List.length_map] at this
    exact this
   ·rw [if_neg (by simpa using hi)]
 have := key fuel 0 (by omega) (by omega)
 have : z2v fuel (rs.map rt) ((rs.map rt).length : Int) 0 = _ := this
 rw [this]
end Go.Proofs.YtcdcoeofhnfjdabGreatDoor
namespace Go.Proofs.YtcdcoeofhnfjdabGreatDoor
open Go Vm
theorem wr9 {r s : Rat} (hr : OkR r) (hs : OkR s) : z3c fuel [rt r, rt s] = some 0 :=
 y5o [r, s] (by simp) fun x hx => by
  rcases List.mem_cons.1 hx with rfl | hx
  ·exact hr
  ·rw [List.mem_singleton] at hx; rw [hx]; exact hs
theorem wq0 {r s : Rat} (hr : OkR r) (hs : OkR s) : y2o fuel (rt r) (rt s) = some (if OkR (r + s) then (rt (r + s), 0) else (⟨#[]⟩, 2)) := by
 unfold y2o
 obtain ⟨x, ex, hx⟩ := w1l hr
 obtain ⟨y, ey, hy⟩ := w1l hs
 obtain ⟨z, ez, hz⟩ := w4y hx hy (y1t hr) (y1t hs) (by decide)
 rw [wr9 hr hs, Option.bind_some, if_neg (by decide), ex, Option.bind_some, ey, Option.bind_some, ez, Option.bind_some, wk2 hz (wb6 (y1t hr) (y1t hs)) (by decide), Option.bind_some]
theorem wq1 {r s : Rat} (hr : OkR r) (hs : OkR s) : y2q fuel (rt r) (rt s) = some (if OkR (r * s) then (rt (r * s), 0) else (⟨#[]⟩, 2)) := by
 unfold y2q
 obtain ⟨x, ex, hx⟩ := w1l hr
 obtain ⟨y, ey, hy⟩ := w1l hs
 obtain ⟨z, ez, hz⟩ := y65 hx hy (y1t hr) (y1t hs) (by decide)
 rw [wr9 hr hs, Option.bind_some, if_neg (by decide), ex, Option.bind_some, ey, Option.bind_some, ez, Option.bind_some, wk2 hz (y9y (y1t hr) (y1t hs)) (by decide), Option.bind_some]
theorem v06 : (⟨#[48]⟩ : ByteArray) = rt 0 := txt_zero.trans (wi4 0).symm
theorem v1v : (⟨#[49]⟩ : ByteArray) = rt 1 := txt_one.trans (wi4 1).symm
theorem v01 {r s : Rat} (hr : OkR r) (hs : OkR s) (h : OkR (r + s)) : y2o fuel (rt r) (rt s) = some (rt (r + s), 0) := by rw [wq0 hr hs, if_pos h]
theorem v02 {r s : Rat} (hr : OkR r) (hs : OkR s) (h : OkR (r * s)) : y2q fuel (rt r) (rt s) = some (rt (r * s), 0) := by rw [wq1 hr hs, if_pos h]
theorem v03 {r : Rat} (hr : OkR r) : y78 fuel (rt r) = some (rt (-r), 0) := by
 unfold y78
 obtain ⟨x, ex, hx⟩ := w1l hr
 obtain ⟨z, ez, hz⟩ := yl2 hx
 rw [yl4 hr, Option.bind_some, if_neg (by decide), ex, Option.bind_some, ez, Option.bind_some, w24 hz (y74 (y1t hr)) (by decide), Option.bind_some]
theorem wg9 {r : Rat} (h : OkR r) : OkR (-r) := ⟨by rw [Rat.neg_num, Int.natAbs_neg]; exact h.1, by rw [Rat.neg_den]; exact h.2⟩
theorem v1w (r : Rat) : 0 < (rtb r).length := by
 unfold rtb
 have := v1a r.num.natAbs
 have : 0 < (dt r.num.natAbs).length := List.length_pos_iff.2 this
 simp only [List.length_append]
 omega
theorem v16 (r : Rat) : Dr (rtb r).length r := by
 have hp := v1w r
 have l1 : (dt r.num.natAbs).length = (dig r.num.natAbs).length := by rw [dt, List.length_map]
 have l2 : (dt r.den).length = (dig r.den).length := by rw [dt, List.length_map]
 have hl : (rtb r).length = (if r.num < 0 then [45] else ([] : List Nat)).length + ((dt r.num.natAbs).length + (if r.den = 1 then ([] : List Nat) else 47 :: dt r.den).length) := by
  unfold rtb; simp only [List.length_append]
 refine ⟨(z4a _ _ (by omega)).1 (by omega), ?_⟩
 by_cases h : r.den = 1
 ·rw [h]; exact Nat.one_lt_pow (by omega) (by decide)
 ·rw [if_neg h, List.length_cons] at hl
  exact (z4a _ _ (by omega)).1 (by omega)
theorem v05 (r : Rat) : (rt r).size = (rtb r).length := by unfold rt; rw [z4d]
end Go.Proofs.YtcdcoeofhnfjdabGreatDoor
namespace Go.Proofs.YtcdcoeofhnfjdabGreatDoor
open Go Vm
theorem y91 {r : Rat} : ¬ r.num.sign < 0 ↔ 0 <= r := by
 rw [<- Rat.num_nonneg]
 rcases Int.lt_trichotomy r.num 0 with h | h | h
 ·rw [Int.sign_eq_neg_one_of_neg h]; omega
 ·rw [h]; simp
 ·rw [Int.sign_eq_one_of_pos h]; omega
end Go.Proofs.YtcdcoeofhnfjdabGreatDoor
namespace Go.Proofs.YtcdcoeofhnfjdabGreatDoor
open Go Vm
theorem y2v {α : Type} {a b : List α} {i : Nat} {d : α} (h : i < a.length) : (a ++ b).getD i d = a.getD i d := by
 rw [List.getD_eq_getElem?_getD, List.getElem?_append_left h, <- List.getD_eq_getElem?_getD]
theorem y7a {α : Type} {a : List α} {x d : α} {i : Nat} (h : i = a.length) : (a ++ [x]).getD i d = x := by
 rw [List.getD_eq_getElem?_getD, List.getElem?_append_right (by omega), h, Nat.sub_self]; rfl
def QRs (rs : List Rat) (qs : List Qd) : Prop := rs.length = qs.length /\ ∀ i, i < rs.length -> QR (rs.getD i 0) (qs.getD i (false, ([], [])))
theorem wp9 {rs : List Rat} {qs : List Qd} (h : QRs rs qs) {r : Rat} {q : Qd} (hr : QR r q) : QRs (rs ++ [r]) (qs ++ [q]) := by
 refine ⟨by rw [List.length_append, List.length_append, h.1]; rfl, fun i hi => ?_⟩
 rw [List.length_append, List.length_singleton] at hi
 by_cases e : i < rs.length
 ·rw [List.getD_eq_getElem?_getD, List.getD_eq_getElem?_getD, List.getElem?_append_left e, List.getElem?_append_left (by rw [<- h.1]; exact e), <- List.getD_eq_getElem?_getD, <- List.getD_eq_getElem?_getD]
  exact h.2 i e
 ·have : i = rs.length := by omega
  subst this
  rw [List.getD_eq_getElem?_getD, List.getD_eq_getElem?_getD, List.getElem?_append_right (by omega), List.getElem?_append_right (by rw [h.1]; omega), Nat.sub_self, h.1, Nat.sub_self]
  exact hr
theorem wo4 {α : Type} (n i : Nat) (x : α) : (List.replicate n x).getD i x = x := by
 rw [List.getD_eq_getElem?_getD, List.getElem?_replicate]; split <;> rfl
theorem w72 (rs : List Rat) (hl : rs.length <= 1000000) (h : ∀ r, r ∈ rs -> OkR r) : ∀ (m i : Nat) (qs : List Qd), i <= rs.length -> rs.length < m + i -> QRs (rs.take i) qs ->
  ∃ qs', z7e m (rs.map rt) (rs.length : Int) (i : Int) qs = some (.exit (qs', ())) /\ QRs rs qs'
 | 0, i, qs, h1, h2, _ => by omega
 | m + 1, i, qs, h1, h2, hq => by
  simp only [z7e, List.length_map]
  by_cases hi : i < rs.length
  ·have e4 : IntKind.i64.wrap ((i : Int) + 1) = ((i + 1 : Nat) : Int) := by rw [w64 _ (by omega) (by omega)]; omega
   obtain ⟨z, hz, hqz⟩ := w1l (h (rs.getD i 0) (by rw [z3d rs i 0 hi]; exact List.getElem_mem hi))
   have hql : qs.length = i := by have := hq.1; rw [List.length_take] at this; omega
   rw [if_pos (by simpa using hi), if_pos (by omega), if_pos (by omega), Int.toNat_natCast, w1j rs i hi, hz, Option.bind_some, if_pos (by omega), e4]
   refine w72 rs hl h m (i + 1) _ (by omega) (by omega) ?_
   rw [List.take_succ_eq_append_getElem hi, <- z3d rs i 0 hi]
   exact wp9 hq hqz
  ·rw [if_neg (by simpa using hi)]
   rw [List.take_of_length_le (by omega)] at hq
   exact ⟨qs, rfl, hq⟩
theorem yt2 (rs : List Rat) (hl : rs.length <= 1000000) (h : ∀ r, r ∈ rs -> OkR r) : ∃ qs, z2m fuel (rs.map rt) = some qs /\ QRs rs qs := by
 have hf := z82 (n := 2 ^ 100) (by decide)
 obtain ⟨qs, g, hq⟩ := w72 rs hl h fuel 0 [] (by omega) (by omega) ⟨rfl, fun i hi => by simp at hi⟩
 have g : z7e fuel (rs.map rt) (rs.length : Int) 0 [] = _ := g
 unfold z2m
 rw [List.length_map, g]
 exact ⟨qs, rfl, hq⟩
theorem w6u (rs : List Rat) (qs : List Qd) (h : QRs rs qs) {K : Nat} (hK : K <= 4194304) (hl : rs.length <= 1000000) (hd : ∀ i, i < rs.length -> Dr K (rs.getD i 0)) : ∀ (m i : Nat), i <= rs.length -> rs.length < m + i -> (∀ j, j < i -> OkR (rs.getD j 0)) ->
  ((∃ j, j < rs.length /\ ¬ OkR (rs.getD j 0)) /\ ∃ (e : Int) (d : _), e ≠ 0 /\ z5e m qs (qs.length : Int) (i : Int) ((rs.take i).map rt) = some (.ret (e, d))) \/
  ((∀ j, j < rs.length -> OkR (rs.getD j 0)) /\ z5e m qs (qs.length : Int) (i : Int) ((rs.take i).map rt) = some (.exit (rs.map rt, ())))
 | 0, i, h1, h2, _ => by omega
 | m + 1, i, h1, h2, h3 => by
  have hql := h.1
  simp only [z5e]
  by_cases hi : i < rs.length
  ·have e4 : IntKind.i64.wrap ((i : Int) + 1) = ((i + 1 : Nat) : Int) := by rw [w64 _ (by omega) (by omega)]; omega
   have hq := h.2 i hi
   have hdi := hd i hi
   have f1 := y8r hq hdi hK
   have f1 : z8f fuel ((qs.getD i (false, ([], []))).1, ((qs.getD i (false, ([], []))).2)) = _ := f1
   rw [if_pos (by simp; omega), if_pos (by omega), if_pos (by omega), Int.toNat_natCast, f1, Option.bind_some, e4]
   by_cases ho : OkR (rs.getD i 0)
   ·have f2 := w24 hq hdi hK
    have f2 : z6u fuel ((qs.getD i (false, ([], []))).1, ((qs.getD i (false, ([], []))).2)) = _ := f2
    rw [if_pos ho, if_neg (by decide), f2, Option.bind_some, if_pos (by rw [List.length_map, List.length_take]; omega)]
    have e : (rs.take i).map rt ++ [rt (rs.getD i 0)] = (rs.take (i + 1)).map rt := by
     rw [List.take_succ_eq_append_getElem hi, List.map_append, z3d rs i 0 hi]; rfl
    rw [e]
    refine w6u rs qs h hK hl hd m (i + 1) (by omega) (by omega) fun j hj => ?_
    by_cases ej : j = i
    ·rw [ej]; exact ho
    ·exact h3 j (by omega)
   ·rw [if_neg ho, if_pos (by decide)]
    exact .inl ⟨⟨i, hi, ho⟩, 2, _, by decide, rfl⟩
  ·rw [if_neg (by simp; omega), List.take_of_length_le (by omega)]
   exact .inr ⟨fun j hj => h3 j (by omega), rfl⟩
theorem w6t {rs : List Rat} {qs : List Qd} (h : QRs rs qs) {K : Nat} (hK : K <= 4194304) (hl : rs.length <= 1000000) (hd : ∀ i, i < rs.length -> Dr K (rs.getD i 0)) :
  ((∃ j, j < rs.length /\ ¬ OkR (rs.getD j 0)) /\ ∃ e : Int, e ≠ 0 /\ z3g fuel qs = some ([], e)) \/ ((∀ j, j < rs.length -> OkR (rs.getD j 0)) /\ z3g fuel qs = some (rs.map rt, 0)) := by
 have hf := z82 (n := 2 ^ 100) (by decide)
 unfold z3g
 rcases w6u rs qs h hK hl hd fuel 0 (by omega) (by omega) (fun j hj => by omega) with ⟨hb, e, d, e0, g⟩ | ⟨ho, g⟩
 ·have g : z5e fuel qs (qs.length : Int) 0 [] = _ := g
  rw [g]; exact .inl ⟨hb, e, e0, rfl⟩
 ·have g : z5e fuel qs (qs.length : Int) 0 [] = _ := g
  rw [g]; exact .inr ⟨ho, rfl⟩
theorem y71 (l : List ByteArray) (hs : l.length <= 4611686018427387904) (hb : ∀ s, s ∈ l -> s.size <= 900000000000000) :
  (∃ e : Int, e ≠ 0 /\ z1v fuel l = some e) \/ (z1v fuel l = some 0 /\ l.length <= 40 /\ ∃ rs : List Rat, l = rs.map rt /\ ∀ r, r ∈ rs -> OkR r) := by
 unfold z1v
 by_cases h : l.length <= 40
 ·rw [if_neg (by rw [decide_eq_true_eq]; omega)]
  rcases yw3 l hs hb with ⟨e, e0, g⟩ | ⟨rs, h1, h2, g⟩
  ·rw [g]; exact .inl ⟨e, e0, rfl⟩
  ·rw [g]; exact .inr ⟨rfl, h, rs, h1, h2⟩
 ·rw [if_pos (by rw [decide_eq_true_eq]; omega)]
  exact .inl ⟨2, by decide, rfl⟩
end Go.Proofs.YtcdcoeofhnfjdabGreatDoor
namespace Go.Proofs.YtcdcoeofhnfjdabGreatDoor
open Go Vm
def QF (n : Nat) (f : Nat -> Rat) (qs : List Qd) : Prop := qs.length = n /\ ∀ i, i < n -> QR (f i) (qs.getD i (false, ([], [])))
theorem QF.at {n : Nat} {f : Nat -> Rat} {qs : List Qd} (h : QF n f qs) {i : Nat} (hi : i < n) : QR (f i) ((qs.getD i (false, ([], []))).1, ((qs.getD i (false, ([], []))).2)) := h.2 i hi
theorem QF.ext {n : Nat} {f g : Nat -> Rat} {qs : List Qd} (h : QF n f qs) (e : ∀ i, i < n -> f i = g i) : QF n g qs := ⟨h.1, fun i hi => by rw [<- e i hi]; exact h.2 i hi⟩
theorem QF.set {n : Nat} {f : Nat -> Rat} {qs : List Qd} (h : QF n f qs) {i : Nat} (hi : i < n) {r : Rat} {q : Qd} (hr : QR r q) : QF n (fun j => if j = i then r else f j) (qs.set i q) := by
 refine ⟨by rw [List.length_set, h.1], fun j hj => ?_⟩
 show QR (if j = i then r else f j) _
 by_cases e : j = i
 ·rw [if_pos e, e, w1k _ _ _ _ (by rw [h.1]; exact hi)]; exact hr
 ·rw [if_neg e, z5d _ _ _ _ _ (fun x => e x.symm)]; exact h.2 j hj
theorem QF.of {rs : List Rat} {qs : List Qd} (h : QRs rs qs) : QF rs.length (fun i => rs.getD i 0) qs := ⟨h.1.symm, h.2⟩
theorem z8s {n i : Nat} {f : Nat -> Rat} (h : i < n) : ((List.range n).map f).getD i 0 = f i := by
 rw [List.getD_eq_getElem?_getD, List.getElem?_map, List.getElem?_range h]; rfl
theorem QF.list {n : Nat} {f : Nat -> Rat} {qs : List Qd} (h : QF n f qs) : QRs ((List.range n).map f) qs := by
 refine ⟨by rw [List.length_map, List.length_range, h.1], fun i hi => ?_⟩
 rw [List.length_map, List.length_range] at hi
 rw [z8s hi]
 exact h.2 i hi
theorem QF.rep (n : Nat) : QF n (fun _ => 0) (List.replicate n (false, ([], []))) := ⟨by simp, fun i _ => by rw [wo4]; exact y3g⟩
def fs (f : Nat -> Rat) : Nat -> Rat
 | 0 => 0
 | n + 1 => fs f n + f n
theorem z1h {f g : Nat -> Rat} : ∀ {n : Nat}, (∀ i, i < n -> f i = g i) -> fs f n = fs g n
 | 0, _ => rfl
 | n + 1, h => by rw [fs, fs, z1h fun i hi => h i (by omega), h n (by omega)]
theorem ya2 {f g : Nat -> Rat} : ∀ n : Nat, fs (fun i => f i + g i) n = fs f n + fs g n
 | 0 => by simp only [fs]; grind
 | n + 1 => by simp only [fs, ya2 n]; grind
theorem zj7 {f : Nat -> Rat} : ∀ {n : Nat}, (∀ i, i < n -> 0 <= f i) -> 0 <= fs f n
 | 0, _ => by simp only [fs]; exact Rat.le_refl
 | n + 1, h => by
  have h1 := zj7 (n := n) fun i hi => h i (by omega)
  have h2 := h n (by omega)
  rw [fs]; grind
theorem wx9 {f : Nat -> Rat} : ∀ {n i : Nat}, (∀ i, i < n -> 0 <= f i) -> i < n -> f i <= fs f n
 | 0, _, _, h => by omega
 | n + 1, i, h, hi => by
  rw [fs]
  have h2 := h n (by omega)
  by_cases e : i = n
  ·subst e
   have h1 := zj7 (n := i) fun j hj => h j (by omega)
   grind
  ·have h1 := wx9 (n := n) (fun j hj => h j (by omega)) (show i < n by omega)
   grind
theorem v15 {f : Nat -> Rat} {k : Nat} : ∀ {n : Nat}, (∀ i, i < n -> Dr k (f i)) -> Dr ((k + 1) * n + 1) (fs f n)
 | 0, _ => y5q (by omega)
 | n + 1, h => by
  have h1 := v15 (n := n) fun i hi => h i (by omega)
  have h2 := h n (by omega)
  refine z7v ?_ (wb6 h1 h2)
  rw [Nat.mul_succ]; omega
theorem w6r {r : Rat} : r.num.sign <= 0 ↔ r <= 0 := by
 have h1 : r.num.sign <= 0 ↔ r.num <= 0 := by
  rcases Int.lt_trichotomy r.num 0 with h | h | h
  ·rw [Int.sign_eq_neg_one_of_neg h]; omega
  ·rw [h]; simp
  ·rw [Int.sign_eq_one_of_pos h]; omega
 rw [h1]
 have h2 := Rat.num_nonneg (q := -r)
 rw [Rat.neg_num] at h2
 constructor
 ·intro h
  have := h2.1 (by omega)
  grind
 ·intro h
  have := h2.2 (by grind)
  omega
end Go.Proofs.YtcdcoeofhnfjdabGreatDoor
namespace Go.Proofs.YtcdcoeofhnfjdabGreatDoor
open Go Vm
def Zd (D : Nat) (r : Rat) : Prop := ∃ z : Int, r = mkRat z D
theorem Zd.den (r : Rat) : Zd r.den r := ⟨r.num, (Rat.mkRat_self r).symm⟩
theorem Zd.mul {D E : Nat} {r s : Rat} : Zd D r -> Zd E s -> Zd (D * E) (r * s) := fun ⟨a, ha⟩ ⟨b, hb⟩ => ⟨a * b, by rw [ha, hb, Rat.mkRat_mul_mkRat]⟩
theorem Zd.more {D E : Nat} (hE : E ≠ 0) {r : Rat} : Zd D r -> Zd (D * E) r := fun ⟨a, ha⟩ => ⟨a * E, by rw [ha, Rat.mkRat_mul_right hE]⟩
theorem Zd.add {D : Nat} (hD : D ≠ 0) {r s : Rat} : Zd D r -> Zd D s -> Zd D (r + s) := fun ⟨a, ha⟩ ⟨b, hb⟩ => ⟨a + b, by
  rw [ha, hb, Rat.mkRat_add_mkRat _ _ hD hD, <- Int.add_mul, Rat.mkRat_mul_right hD]⟩
theorem Zd.zero {D : Nat} : Zd D 0 := ⟨0, (Rat.zero_mkRat D).symm⟩
theorem Zd.le {D : Nat} (hD : D ≠ 0) {r : Rat} : Zd D r -> r.den <= D := fun ⟨a, ha⟩ => by
 rw [ha, Rat.den_mkRat, if_neg hD]; exact Nat.div_le_self _ _
theorem Zd.dr {D B k : Nat} (hD : D ≠ 0) (hB : 1 <= B) {r : Rat} (h : Zd D r) (h1 : r <= (B : Rat)) (h2 : -(B : Rat) <= r) (hk : B * D < 10 ^ k) : Dr k r := by
 have hd := h.le hD
 have a1 := (Rat.le_iff _ _).1 h1
 have a2 := (Rat.le_iff _ _).1 h2
 rw [Rat.num_natCast, Rat.den_natCast] at a1
 rw [Rat.neg_num, Rat.neg_den, Rat.num_natCast, Rat.den_natCast] at a2
 have hBd : B * r.den <= B * D := Nat.mul_le_mul_left _ hd
 have hD' : D <= B * D := Nat.le_mul_of_pos_left _ hB
 refine ⟨?_, by omega⟩
 have a3 : (B : Int) * (r.den : Int) = ((B * r.den : Nat) : Int) := by simp
 have a4 : -(B : Int) * (r.den : Int) = -((B * r.den : Nat) : Int) := by rw [Int.neg_mul, a3]
 rw [a3] at a1
 rw [a4] at a2
 omega
def Ab (B : Nat) (r : Rat) : Prop := r <= (B : Rat) /\ -(B : Rat) <= r
theorem y8z {a b : Nat} (h : a <= b) : (a : Rat) <= (b : Rat) := by
 rw [Rat.le_iff, Rat.num_natCast, Rat.num_natCast, Rat.den_natCast, Rat.den_natCast]
 omega
theorem Ab.mono {B B' : Nat} (h : B <= B') {r : Rat} (k : Ab B r) : Ab B' r := by
 have h1 := y8z h
 exact ⟨by have := k.1; grind, by have := k.2; grind⟩
theorem Ab.add {B B' : Nat} {r s : Rat} (h : Ab B r) (k : Ab B' s) : Ab (B + B') (r + s) := by
 obtain ⟨h1, h2⟩ := h
 obtain ⟨k1, k2⟩ := k
 constructor
 ·rw [Rat.natCast_add]; grind
 ·rw [Rat.natCast_add]; grind
theorem Ab.zero (B : Nat) : Ab B 0 := by
 have h := y8z (Nat.zero_le B)
 have e : ((0 : Nat) : Rat) = 0 := rfl
 rw [e] at h
 exact ⟨h, by grind⟩
theorem Ab.neg {B : Nat} {r : Rat} (h : Ab B r) : Ab B (-r) := by
 obtain ⟨h1, h2⟩ := h
 exact ⟨by grind, by grind⟩
theorem Ab.of_dr {k : Nat} {r : Rat} (h : Dr k r) : Ab (10 ^ k) r := by
 have hd : 1 <= r.den := Nat.pos_of_ne_zero r.den_nz
 have hle : 10 ^ k <= 10 ^ k * r.den := Nat.le_mul_of_pos_right _ hd
 have h1 := h.1
 constructor
 ·rw [Rat.le_iff, Rat.num_natCast, Rat.den_natCast]
  have : ((10 ^ k : Nat) : Int) * (r.den : Int) = ((10 ^ k * r.den : Nat) : Int) := by rw [Int.natCast_mul]
  rw [this]
  generalize 10 ^ k * r.den = X at *
  generalize 10 ^ k = Y at *
  omega
 ·rw [Rat.le_iff, Rat.neg_num, Rat.neg_den, Rat.num_natCast, Rat.den_natCast]
  have : -((10 ^ k : Nat) : Int) * (r.den : Int) = -((10 ^ k * r.den : Nat) : Int) := by rw [Int.neg_mul, Int.natCast_mul]
  rw [this]
  generalize 10 ^ k * r.den = X at *
  generalize 10 ^ k = Y at *
  omega
theorem Zd.neg {D : Nat} {r : Rat} : Zd D r -> Zd D (-r) := fun ⟨a, ha⟩ => ⟨-a, by rw [ha, Rat.neg_mkRat]⟩
end Go.Proofs.YtcdcoeofhnfjdabGreatDoor
namespace Go.Proofs.YtcdcoeofhnfjdabGreatDoor
open Go Vm
structure WM (a : List (List ByteArray)) : Prop where
 len : a.length <= 140737488351232
 row : ∀ x, x ∈ a -> x.length <= 140737488351232
 txt : ∀ x, x ∈ a -> ∀ s, s ∈ x -> s.size <= 900000000000000
theorem wi3 {a : List (List ByteArray)} {i : Nat} (h : i < a.length) : a.getD i [] ∈ a := by rw [z3d a i _ h]; exact List.getElem_mem h
def Txt (a : List (List ByteArray)) (R C : Nat) (M : Nat -> Nat -> Rat) : Prop := a.length = R /\ ∀ i, i < R -> a.getD i [] = ((List.range C).map (M i)).map rt /\ ∀ j, j < C -> OkR (M i j)
theorem yh0 {a : List (List ByteArray)} (ha : WM a) : ∀ (m i : Nat), i <= a.length -> a.length < m + i -> (∀ k, k < i -> (a.getD k []).length = (a.getD 0 []).length /\ (a.getD k []).length <= 40 /\ ∃ rs : List Rat, a.getD k [] = rs.map rt /\ ∀ r, r ∈ rs -> OkR r) ->
  (∃ (e : Int), e ≠ 0 /\ z2u m a a (a.length : Int) (i : Int) = some (.ret (e, ()))) \/
  ((∀ k, k < a.length -> (a.getD k []).length = (a.getD 0 []).length /\ (a.getD k []).length <= 40 /\ ∃ rs : List Rat, a.getD k [] = rs.map rt /\ ∀ r, r ∈ rs -> OkR r) /\ z2u m a a (a.length : Int) (i : Int) = some (.exit ()))
 | 0, i, h1, h2, _ => by omega
 | m + 1, i, h1, h2, h3 => by
  have hl := ha.len
  simp only [z2u]
  by_cases hi : i < a.length
  ·have e4 : IntKind.i64.wrap ((i : Int) + 1) = ((i + 1 : Nat) : Int) := by rw [w64 _ (by omega) (by omega)]; omega
   have hm := wi3 hi
   rw [if_pos (by simpa using hi), if_pos (by omega), if_pos (by omega), if_pos (by omega), Int.toNat_natCast, e4]
   by_cases c1 : (a.getD i []).length = (a.getD 0 []).length
   ·rw [if_neg (by rw [bne_iff_ne]; omega)]
    rcases y71 (a.getD i []) (Nat.le_trans (ha.row _ hm) (by decide)) (ha.txt _ hm) with ⟨e, e0, g⟩ | ⟨g, g40, grs⟩
    ·rw [g, Option.bind_some, if_pos (by simpa using e0)]
     exact .inl ⟨e, e0, rfl⟩
    ·rw [g, Option.bind_some, if_neg (by decide)]
     refine yh0 ha m (i + 1) (by omega) (by omega) fun k hk => ?_
     by_cases e : k = i
     ·rw [e]; exact ⟨c1, g40, grs⟩
     ·exact h3 k (by omega)
   ·rw [if_pos (by rw [bne_iff_ne]; omega)]
    exact .inl ⟨3, by decide, rfl⟩
  ·rw [if_neg (by simpa using hi)]
   exact .inr ⟨fun k hk => h3 k (by omega), rfl⟩
theorem w4s {a : List (List ByteArray)} (ha : WM a) : (∃ e : Int, e ≠ 0 /\ z3l fuel a = some e) \/
  (z3l fuel a = some 0 /\ a.length <= 40 /\ (a.getD 0 []).length <= 40 /\ ∃ M, Txt a a.length (a.getD 0 []).length M) := by
 have hf := z82 (n := 2 ^ 100) (by decide)
 have hl := ha.len
 unfold z3l
 by_cases h40 : a.length <= 40
 ·rw [if_neg (by rw [decide_eq_true_eq]; omega)]
  rcases yh0 ha fuel 0 (by omega) (by omega) (fun k hk => by omega) with ⟨e, e0, g⟩ | ⟨h, g⟩
  ·have g : z2u fuel a a (a.length : Int) 0 = _ := g
   rw [g]; exact .inl ⟨e, e0, rfl⟩
  ·have g : z2u fuel a a (a.length : Int) 0 = _ := g
   rw [g]
   refine .inr ⟨rfl, h40, ?_, ?_⟩
   ·by_cases h0 : 0 < a.length
    ·exact (h 0 h0).2.1
    ·have : a = [] := List.eq_nil_of_length_eq_zero (by omega)
     rw [this]; decide
   ·have h' : ∀ k, ∃ rs : List Rat, k < a.length -> a.getD k [] = rs.map rt /\ ∀ r, r ∈ rs -> OkR r := fun k => by
     by_cases hk : k < a.length
     ·obtain ⟨rs, h1, h2⟩ := (h k hk).2.2
      exact ⟨rs, fun _ => ⟨h1, h2⟩⟩
     ·exact ⟨[], fun h => absurd h hk⟩
    obtain ⟨F, hF⟩ := Classical.axiomOfChoice h'
    refine ⟨fun i j => (F i).getD j 0, rfl, fun i hi => ?_⟩
    obtain ⟨h1, h2⟩ := hF i hi
    have hlen : (F i).length = (a.getD 0 []).length := by
     have := (h i hi).1
     rw [h1, List.length_map] at this
     exact this
    refine ⟨?_, fun j hj => ?_⟩
    ·rw [h1]
     congr 1
     refine List.ext_getElem (by rw [hlen, List.length_map, List.length_range]) fun j g1 g2 => ?_
     rw [List.getElem_map, List.getElem_range]
     exact (z3d _ j 0 g1).symm
    ·refine h2 _ ?_
     show (F i).getD j 0 ∈ F i
     rw [z3d _ j 0 (by omega)]; exact List.getElem_mem _
 ·rw [if_pos (by rw [decide_eq_true_eq]; omega)]
  exact .inl ⟨2, by decide, rfl⟩
theorem w4g {a : List (List ByteArray)} (ha : WM a) : (∃ e : Int, e ≠ 0 /\ z2f fuel a = some e) \/
  (z2f fuel a = some 0 /\ ∃ R C M, 0 < R /\ R <= 12 /\ 0 < C /\ C <= 12 /\ (a.getD 0 []).length = C /\ Txt a R C M) := by
 unfold z2f
 by_cases h12 : a.length <= 12
 ·rw [if_neg (by rw [decide_eq_true_eq]; omega)]
  rcases w4s ha with ⟨e, e0, g⟩ | ⟨g, _, _, M, hM⟩
  ·rw [g, Option.bind_some, if_pos (by simpa using e0)]
   exact .inl ⟨e, e0, rfl⟩
  ·rw [g, Option.bind_some, if_neg (by decide)]
   unfold z5b
   by_cases h0 : a.length = 0
   ·rw [if_pos (by rw [beq_iff_eq]; omega), Option.bind_some, if_pos (by decide)]
    exact .inl ⟨8, by decide, rfl⟩
   ·rw [if_neg (by rw [beq_iff_eq]; omega), if_pos (by omega), Option.bind_some]
    by_cases c0 : (a.getD 0 []).length = 0
    ·rw [if_pos (by rw [beq_iff_eq]; omega)]
     exact .inl ⟨8, by decide, rfl⟩
    ·rw [if_neg (by rw [beq_iff_eq]; omega), if_pos (by omega)]
     by_cases c12 : (a.getD 0 []).length <= 12
     ·rw [if_neg (by rw [decide_eq_true_eq]; omega)]
      exact .inr ⟨rfl, a.length, (a.getD 0 []).length, M, by omega, h12, by omega, c12, rfl, hM⟩
     ·rw [if_pos (by rw [decide_eq_true_eq]; omega)]
      exact .inl ⟨2, by decide, rfl⟩
 ·rw [if_pos (by rw [decide_eq_true_eq]; omega)]
  exact .inl ⟨2, by decide, rfl⟩
def QG (R C : Nat) (M : Nat -> Nat -> Rat) (g : List (List Qd)) : Prop := g.length = R /\ ∀ i, i < R -> QF C (M i) (g.getD i [])
theorem wd9 {a : List (List ByteArray)} {R C : Nat} {M : Nat -> Nat -> Rat} (h : Txt a R C M) (hR : R <= 100) (hC : C <= 100) : ∀ (m i : Nat) (g : List (List Qd)), i <= R -> R < m + i -> QG i C M g ->
  ∃ g', z8j m a (R : Int) (i : Int) g = some (.exit (g', ())) /\ QG R C M g'
 | 0, i, g, h1, h2, _ => by omega
 | m + 1, i, g, h1, h2, hg => by
  have hl := h.1
  simp only [z8j]
  by_cases hi : i < R
  ·have e4 : IntKind.i64.wrap ((i : Int) + 1) = ((i + 1 : Nat) : Int) := by rw [w64 _ (by omega) (by omega)]; omega
   obtain ⟨h3, h4⟩ := h.2 i hi
   obtain ⟨qs, gq, hq⟩ := yt2 ((List.range C).map (M i)) (by rw [List.length_map, List.length_range]; omega) (fun r hr => by
     obtain ⟨j, hj, rfl⟩ := List.mem_map.1 hr
     exact h4 j (List.mem_range.1 hj))
   have hgl := hg.1
   rw [if_pos (by simpa using hi), if_pos (by omega), if_pos (by omega), Int.toNat_natCast, h3, gq, Option.bind_some, if_pos (by omega), e4]
   refine wd9 h hR hC m (i + 1) _ (by omega) (by omega) ⟨by rw [List.length_append, hgl]; rfl, fun k hk => ?_⟩
   by_cases e : k = i
   ·subst e
    rw [y7a hgl.symm]
    have := QF.of hq
    rw [List.length_map, List.length_range] at this
    exact this.ext fun j hj => z8s hj
   ·rw [y2v (by omega)]; exact hg.2 k (by omega)
  ·rw [if_neg (by simpa using hi)]
   have : i = R := by omega
   subst this
   exact ⟨g, rfl, hg⟩
theorem wt0 {a : List (List ByteArray)} {R C : Nat} {M : Nat -> Nat -> Rat} (h : Txt a R C M) (hR : R <= 100) (hC : C <= 100) : ∃ g, z69 fuel a = some g /\ QG R C M g := by
 have hf := z82 (n := 2 ^ 100) (by decide)
 obtain ⟨g, e, hg⟩ := wd9 h hR hC fuel 0 [] (by omega) (by omega) ⟨rfl, fun i hi => by omega⟩
 have e : z8j fuel a (R : Int) 0 [] = _ := e
 unfold z69
 rw [h.1, e]
 exact ⟨g, rfl, hg⟩
theorem v21 (l : List ByteArray) (hl : l.length <= 140737488351232) : ∀ (m i : Nat), i <= l.length -> l.length < m + i -> (∀ x, x ∈ l.take i -> x.size <= 12) ->
  (∃ k : Nat, z00 m l (l.length : Int) (i : Int) = some (.ret ((k : Int), ()))) \/
  ((∀ x, x ∈ l -> x.size <= 12) /\ z00 m l (l.length : Int) (i : Int) = some (.exit ()))
 | 0, i, h1, h2, _ => by omega
 | m + 1, i, h1, h2, h3 => by
  simp only [z00]
  by_cases hi : i < l.length
  ·have e4 : IntKind.i64.wrap ((i : Int) + 1) = ((i + 1 : Nat) : Int) := by rw [w64 _ (by omega) (by omega)]; omega
   rw [if_pos (by simpa using hi), if_pos (by omega), if_pos (by omega), Int.toNat_natCast, e4]
   by_cases c : (l.getD i ByteArray.empty).size <= 12
   ·rw [if_neg (by rw [decide_eq_true_eq]; omega)]
    refine v21 l hl m (i + 1) (by omega) (by omega) fun x hx => ?_
    rw [List.take_succ_eq_append_getElem hi, List.mem_append, List.mem_singleton] at hx
    rcases hx with hx | rfl
    ·exact h3 x hx
    ·rw [<- z3d l i ByteArray.empty hi]; exact c
   ·rw [if_pos (by rw [decide_eq_true_eq]; omega)]
    exact .inl ⟨i, rfl⟩
  ·rw [if_neg (by simpa using hi)]
   rw [List.take_of_length_le (by omega)] at h3
   exact .inr ⟨h3, rfl⟩
theorem wu7 {a : List (List ByteArray)} (ha : WM a) (n : Nat) : ∀ (m i : Nat), i <= a.length -> a.length + 140737488351300 < m + i -> (∀ k, k < i -> (a.getD k []).length <= n /\ ∀ x, x ∈ a.getD k [] -> x.size <= 12) ->
  (∃ (k : Nat) (d : _), z03 m a (a.length : Int) (i : Int) (n : Int) = some (.ret ((k : Int), d))) \/
  ((∀ k, k < a.length -> (a.getD k []).length <= n /\ ∀ x, x ∈ a.getD k [] -> x.size <= 12) /\ z03 m a (a.length : Int) (i : Int) (n : Int) = some (.exit ((n : Int), ())))
 | 0, i, h1, h2, _ => by omega
 | m + 1, i, h1, h2, h3 => by
  have hl := ha.len
  simp only [z03]
  by_cases hi : i < a.length
  ·have e4 : IntKind.i64.wrap ((i : Int) + 1) = ((i + 1 : Nat) : Int) := by rw [w64 _ (by omega) (by omega)]; omega
   have hm := wi3 hi
   have hrl := ha.row _ hm
   rw [if_pos (by simpa using hi), if_pos (by omega), if_pos (by omega), Int.toNat_natCast, e4]
   by_cases c1 : (a.getD i []).length <= n
   ·rw [if_pos (by rw [decide_eq_false_iff_not]; omega)]
    rcases v21 (a.getD i []) hrl m 0 (by omega) (by omega) (fun x hx => by simp at hx) with ⟨k, g⟩ | ⟨h, g⟩
    ·have g : z00 m (a.getD i []) ((a.getD i []).length : Int) 0 = _ := g
     rw [g]
     simp only
     rw [if_pos (decide_eq_true (show (k : Int) >= 0 by omega))]
     exact .inl ⟨i, _, rfl⟩
    ·have g : z00 m (a.getD i []) ((a.getD i []).length : Int) 0 = _ := g
     rw [g]
     refine wu7 ha n m (i + 1) (by omega) (by omega) fun k hk => ?_
     by_cases e : k = i
     ·rw [e]; exact ⟨c1, h⟩
     ·exact h3 k (by omega)
   ·rw [if_neg (by rw [decide_eq_false_iff_not]; omega)]
    exact .inl ⟨i, _, rfl⟩
  ·rw [if_neg (by simpa using hi)]
   exact .inr ⟨fun k hk => h3 k (by omega), rfl⟩
theorem v3a {a : List (List ByteArray)} (h : Wf (.slice (.slice .str)) a) : WM a := by
 obtain ⟨h1, h2⟩ := h
 have e : ∀ (n b : Nat), 1 <= b -> n * b <= 140737488351232 -> n <= 140737488351232 := fun n b hb h => Nat.le_trans (Nat.le_mul_of_pos_right n hb) h
 exact ⟨e _ _ (by decide) h1, fun x hx => e _ _ (by decide) (h2 x hx).1, fun x hx s hs => Nat.le_trans ((h2 x hx).2 s hs) (by decide)⟩
end Go.Proofs.YtcdcoeofhnfjdabGreatDoor
namespace Go.Proofs.YtcdcoeofhnfjdabGreatDoor
open Go Vm
def mt (R C : Nat) (M : Nat -> Nat -> Rat) : List (List ByteArray) := (List.range R).map fun i => ((List.range C).map (M i)).map rt
theorem y3c (R C : Nat) (M : Nat -> Nat -> Rat) : (mt R C M).length = R := by unfold mt; rw [List.length_map, List.length_range]
theorem wt7 {R C : Nat} {M : Nat -> Nat -> Rat} {i : Nat} (h : i < R) : (mt R C M).getD i [] = ((List.range C).map (M i)).map rt := by
 unfold mt
 rw [List.getD_eq_getElem?_getD, List.getElem?_map, List.getElem?_range h]; rfl
theorem wk3 {R C : Nat} {M : Nat -> Nat -> Rat} (h : ∀ i, i < R -> ∀ j, j < C -> OkR (M i j)) : Txt (mt R C M) R C M := ⟨y3c R C M, fun i hi => ⟨wt7 hi, h i hi⟩⟩
theorem Txt.eq {a : List (List ByteArray)} {R C : Nat} {M : Nat -> Nat -> Rat} (h : Txt a R C M) : a = mt R C M := by
 refine List.ext_getElem (by rw [y3c]; exact h.1) fun i h1 h2 => ?_
 have hi : i < R := by rw [<- h.1]; exact h1
 have e1 := (h.2 i hi).1
 have e2 := wt7 (C := C) (M := M) hi
 rw [z3d a i [] h1] at e1
 rw [z3d _ i [] h2] at e2
 rw [e1, e2]
theorem ym5 {a : List (List ByteArray)} {R C : Nat} {M : Nat -> Nat -> Rat} (h : Txt a R C M) (h0 : R = 0 -> C = 0) : z5b fuel a = some (C : Int) := by
 unfold z5b
 have hl := h.1
 by_cases c : R = 0
 ·rw [if_pos (by rw [beq_iff_eq]; omega), h0 c]; rfl
 ·rw [if_neg (by rw [beq_iff_eq]; omega), if_pos (by omega), (h.2 0 (by omega)).1, List.length_map, List.length_map, List.length_range]
theorem yk4 {a : List (List ByteArray)} {R C : Nat} {M : Nat -> Nat -> Rat} (h : Txt a R C M) (hR : R <= 40) (hC : C <= 40) : z3l fuel a = some 0 := by
 have key : ∀ (m i : Nat), i <= R -> R < m + i -> ∃ d, z2u m a a (R : Int) (i : Int) = some (.exit d) := by
  intro m
  induction m with
  | zero => intro i h1 h2; omega
  | succ m ih =>
   intro i h1 h2
   have hl := h.1
   simp only [z2u]
   by_cases hi : i < R
   ·have e4 : IntKind.i64.wrap ((i : Int) + 1) = ((i + 1 : Nat) : Int) := by rw [w64 _ (by omega) (by omega)]; omega
    obtain ⟨r1, r2⟩ := h.2 i hi
    have l1 : (a.getD i []).length = C := by rw [r1, List.length_map, List.length_map, List.length_range]
    have l0 : (a.getD 0 []).length = C := by rw [(h.2 0 (by omega)).1, List.length_map, List.length_map, List.length_range]
    rw [if_pos (by simpa using hi), if_pos (by omega), if_pos (by omega), if_pos (by omega), Int.toNat_natCast, e4, if_neg (by rw [bne_iff_ne]; omega), r1]
    rcases y71 (((List.range C).map (M i)).map rt) (by rw [List.length_map, List.length_map, List.length_range]; omega) (fun s hs => by
      obtain ⟨r, hr, rfl⟩ := List.mem_map.1 hs
      obtain ⟨j, hj, rfl⟩ := List.mem_map.1 hr
      exact wq4 (r2 j (List.mem_range.1 hj))) with ⟨e, e0, g⟩ | ⟨g, _⟩
    ·exfalso
     unfold z1v at g
     rw [if_neg (by rw [decide_eq_true_eq, List.length_map, List.length_map, List.length_range]; omega)] at g
     rw [y5o _ (by rw [List.length_map, List.length_range]; omega) (fun r hr => by
       obtain ⟨j, hj, rfl⟩ := List.mem_map.1 hr
       exact r2 j (List.mem_range.1 hj))] at g
     cases g; exact e0 rfl
    ·rw [g, Option.bind_some, if_neg (by decide)]
     exact ih (i + 1) (by omega) (by omega)
   ·rw [if_neg (by simpa using hi)]; exact ⟨_, rfl⟩
 have hf := z82 (n := 2 ^ 100) (by decide)
 obtain ⟨d, g⟩ := key fuel 0 (by omega) (by omega)
 have g : z2u fuel a a (R : Int) 0 = _ := g
 unfold z3l
 rw [h.1, if_neg (by rw [decide_eq_true_eq]; omega), g]
end Go.Proofs.YtcdcoeofhnfjdabGreatDoor
namespace Go.Proofs.YtcdcoeofhnfjdabGreatDoor
open Go Vm
theorem yx6 {α : Type} (l : List (List α)) (k : Nat) (x : List α) (h : k < l.length) : (l.set k x).getD k [] = x := by
 rw [List.getD_eq_getElem?_getD, List.getElem?_set_self h]; rfl
theorem yo7 {α : Type} (l : List (List α)) {k j : Nat} (x : List α) (h : j ≠ k) : (l.set k x).getD j [] = l.getD j [] := by
 rw [List.getD_eq_getElem?_getD, List.getElem?_set_ne (fun e => h e.symm), <- List.getD_eq_getElem?_getD]
theorem QF.snoc {n : Nat} {f : Nat -> Rat} {qs : List Qd} (h : QF n f qs) {q : Qd} (hq : QR (f n) q) : QF (n + 1) f (qs ++ [q]) := by
 refine ⟨by rw [List.length_append, h.1]; rfl, fun i hi => ?_⟩
 by_cases e : i = n
 ·rw [e, y7a h.1.symm]; exact hq
 ·rw [y2v (by rw [h.1]; omega)]; exact h.2 i (by omega)
def TI (C i c : Nat) (M : Nat -> Nat -> Rat) (b : List (List Qd)) : Prop := b.length = C /\ ∀ k, k < C -> QF (if k < c then i + 1 else i) (fun j => M j k) (b.getD k [])
theorem QG.snoc {R C : Nat} {M : Nat -> Nat -> Rat} {g : List (List Qd)} (h : QG R C M g) {r : List Qd} (hr : QF C (M R) r) : QG (R + 1) C M (g ++ [r]) := by
 refine ⟨by rw [List.length_append, h.1]; rfl, fun i hi => ?_⟩
 by_cases e : i = R
 ·rw [e, y7a h.1.symm]; exact hr
 ·rw [y2v (by rw [h.1]; omega)]; exact h.2 i (by omega)
theorem yl0 {R K : Nat} (hR : R <= 100) (hK : K <= 100) {M : Nat -> Nat -> Rat} {g : List (List Qd)} (hg : QG R K M g) (hd : ∀ i, i < R -> ∀ k, k < K -> Dr 170000 (M i k)) : ∀ (m i : Nat), i <= R -> R < m + i -> (∀ i', i' < i -> ∀ k, k < K -> OkR (M i' k)) ->
  ((∃ i k, i < R /\ k < K /\ ¬ OkR (M i k)) /\ ∃ (e : Int) (d : _), e ≠ 0 /\ z3h m g (R : Int) (i : Int) (mt i K M) = some (.ret (e, d))) \/
  ((∀ i, i < R -> ∀ k, k < K -> OkR (M i k)) /\ z3h m g (R : Int) (i : Int) (mt i K M) = some (.exit (mt R K M, ())))
 | 0, i, h1, h2, _ => by omega
 | m + 1, i, h1, h2, h3 => by
  have lg := hg.1
  simp only [z3h]
  by_cases hi : i < R
  ·have e4 : IntKind.i64.wrap ((i : Int) + 1) = ((i + 1 : Nat) : Int) := by rw [w64 _ (by omega) (by omega)]; omega
   have hl : ((List.range K).map (M i)).length = K := by rw [List.length_map, List.length_range]
   rw [if_pos (by simpa using hi), if_pos (by omega), if_pos (by omega), Int.toNat_natCast]
   rcases w6t (hg.2 i hi).list (K := 170000) (by omega) (by omega) (fun k hk => by rw [hl] at hk; rw [z8s hk]; exact hd i hi k hk) with ⟨⟨k, hk, hn⟩, e, e0, g1⟩ | ⟨hok, g1⟩
   ·rw [hl] at hk
    rw [z8s hk] at hn
    rw [g1, Option.bind_some, if_pos (by simpa using e0)]
    exact .inl ⟨⟨i, k, hi, hk, hn⟩, e, _, e0, rfl⟩
   ·rw [g1, Option.bind_some, if_neg (by simp), if_pos (by rw [y3c]; omega), e4]
    have e : mt i K M ++ [((List.range K).map (M i)).map rt] = mt (i + 1) K M := by unfold mt; rw [List.range_succ, List.map_append]; rfl
    rw [e]
    refine yl0 hR hK hg hd m (i + 1) (by omega) (by omega) fun i' hi' k hk => ?_
    by_cases e : i' = i
    ·subst e
     have := hok k (by rw [hl]; exact hk)
     rw [z8s hk] at this; exact this
    ·exact h3 i' (by omega) k hk
  ·rw [if_neg (by simpa using hi)]
   have : i = R := by omega
   subst this
   exact .inr ⟨h3, rfl⟩
theorem wh1 {R K : Nat} (hR : R <= 100) (hK : K <= 100) {M : Nat -> Nat -> Rat} {g : List (List Qd)} (hg : QG R K M g) (hd : ∀ i, i < R -> ∀ k, k < K -> Dr 170000 (M i k)) :
  ((∃ i k, i < R /\ k < K /\ ¬ OkR (M i k)) /\ ∃ e : Int, e ≠ 0 /\ z6m fuel g = some ([], e)) \/ ((∀ i, i < R -> ∀ k, k < K -> OkR (M i k)) /\ z6m fuel g = some (mt R K M, 0)) := by
 have hf := z82 (n := 2 ^ 100) (by decide)
 unfold z6m
 rw [hg.1]
 rcases yl0 hR hK hg hd fuel 0 (by omega) (by omega) (fun i' hi' => by omega) with ⟨h, e, d, e0, g1⟩ | ⟨h, g1⟩
 ·have g1 : z3h fuel g (R : Int) 0 [] = _ := g1
  rw [g1]; exact .inl ⟨h, e, e0, rfl⟩
 ·have g1 : z3h fuel g (R : Int) 0 [] = _ := g1
  rw [g1]; exact .inr ⟨h, rfl⟩
end Go.Proofs.YtcdcoeofhnfjdabGreatDoor
namespace Go.Proofs.YtcdcoeofhnfjdabGreatDoor
open Go Vm
theorem w7d {a : List (List ByteArray)} {R C k : Nat} {M : Nat -> Nat -> Rat} (ha : Txt a R C M) (hR : R <= 100) (hk : k < C) : ∀ (m i : Nat), i <= R -> R < m + i ->
  z3i m (k : Int) a (R : Int) (i : Int) (((List.range i).map fun j => M j k).map rt) = some (.exit (((List.range R).map fun j => M j k).map rt, ()))
 | 0, i, h1, h2 => by omega
 | m + 1, i, h1, h2 => by
  have la := ha.1
  simp only [z3i]
  by_cases hi : i < R
  ·have e4 : IntKind.i64.wrap ((i : Int) + 1) = ((i + 1 : Nat) : Int) := by rw [w64 _ (by omega) (by omega)]; omega
   obtain ⟨r1, r2⟩ := ha.2 i hi
   have l1 : (a.getD i []).length = C := by rw [r1, List.length_map, List.length_map, List.length_range]
   have e5 : (a.getD i []).getD k ByteArray.empty = rt (M i k) := by
    rw [r1, z3d _ k _ (by rw [List.length_map, List.length_map, List.length_range]; exact hk), List.getElem_map, List.getElem_map, List.getElem_range]
   rw [if_pos (by simpa using hi), if_pos (by omega), if_pos (by omega), if_pos (by omega), Int.toNat_natCast, if_pos (by omega), if_pos (by rw [List.length_map, List.length_map, List.length_range]; omega), e4, Int.toNat_natCast, e5]
   have := w7d ha hR hk m (i + 1) (by omega) (by omega)
   rw [List.range_succ, List.map_append, List.map_append] at this
   exact this
  ·rw [if_neg (by simpa using hi)]
   have : i = R := by omega
   subst this
   rfl
theorem w2v {a : List (List ByteArray)} {R C : Nat} {M : Nat -> Nat -> Rat} (ha : Txt a R C M) (hR : R <= 100) (hC : C <= 100) : ∀ (m k : Nat), k <= C -> C + 200 < m + k ->
  z3x m a (C : Int) (k : Int) (mt k R fun i j => M j i) = some (.exit (mt C R fun i j => M j i, ()))
 | 0, k, h1, h2 => by omega
 | m + 1, k, h1, h2 => by
  have la := ha.1
  simp only [z3x]
  by_cases hk : k < C
  ·have e4 : IntKind.i64.wrap ((k : Int) + 1) = ((k + 1 : Nat) : Int) := by rw [w64 _ (by omega) (by omega)]; omega
   have g := w7d ha hR hk m 0 (by omega) (by omega)
   have g : z3i m (k : Int) a (a.length : Int) 0 [] = some (.exit (((List.range R).map fun j => M j k).map rt, ())) := by rw [la]; exact g
   rw [if_pos (by simpa using hk), g]
   simp only
   rw [if_pos (by rw [y3c]; omega), e4]
   have := w2v ha hR hC m (k + 1) (by omega) (by omega)
   have e : mt (k + 1) R (fun i j => M j i) = mt k R (fun i j => M j i) ++ [((List.range R).map fun j => M j k).map rt] := by unfold mt; rw [List.range_succ, List.map_append]; rfl
   rw [e] at this
   exact this
  ·rw [if_neg (by simpa using hk)]
   have : k = C := by omega
   subst this
   rfl
theorem wr3 {a : List (List ByteArray)} {R C : Nat} {M : Nat -> Nat -> Rat} (ha : Txt a R C M) (hR : R <= 40) (hC : C <= 40) (h0 : R = 0 -> C = 0) : z7m fuel a = some (mt C R fun i j => M j i, 0) := by
 have hf := z82 (n := 2 ^ 100) (by decide)
 have g := w2v ha (by omega) (by omega) fuel 0 (by omega) (by omega)
 have g : z3x fuel a (C : Int) 0 [] = _ := g
 unfold z7m
 rw [yk4 ha hR hC, Option.bind_some, if_neg (by decide), ym5 ha h0, Option.bind_some, g]
theorem za1 (f : Nat -> Rat) (s : Rat) : ∀ n : Nat, fs (fun i => f i * s) n = fs f n * s
 | 0 => by simp only [fs]; grind
 | n + 1 => by rw [fs, fs, za1 f s n]; grind
theorem z9d (f : Nat -> Rat) (s : Rat) : ∀ n : Nat, fs (fun i => s * f i) n = s * fs f n
 | 0 => by simp only [fs]; grind
 | n + 1 => by rw [fs, fs, z9d f s n]; grind
theorem z4k : ∀ n : Nat, fs (fun _ => 0) n = 0
 | 0 => rfl
 | n + 1 => by rw [fs, z4k n]; grind
theorem y8t (f : Nat -> Nat -> Rat) (m : Nat) : ∀ n : Nat, fs (fun i => fs (f i) m) n = fs (fun j => fs (fun i => f i j) n) m
 | 0 => by simp only [fs]; rw [z4k]
 | n + 1 => by
  rw [fs, y8t f m n, <- ya2]
  rfl
def Sm (n : Nat) (a : List (List ByteArray)) : Prop := a.length <= n /\ ∀ k, k < a.length -> (a.getD k []).length <= n /\ ∀ x, x ∈ a.getD k [] -> x.size <= 12
theorem yt7 {l : List (List (List ByteArray))} (hl : l.length <= 10) (hw : ∀ a, a ∈ l -> WM a) (n : Nat) : ∀ (m i : Nat), i <= l.length -> 2 ^ 60 < m + i -> (∀ a, a ∈ l.take i -> Sm n a) ->
  ∃ r : Bool, (match z38 m l (l.length : Int) (i : Int) (n : Int) with
    | none => none
    | some (.exit _) => some true
    | some (.ret d) => some d.1) = some r /\ (r = true -> ∀ a, a ∈ l -> Sm n a)
 | 0, i, h1, h2, _ => by omega
 | m + 1, i, h1, h2, h3 => by
  simp only [z38]
  by_cases hi : i < l.length
  ·have e4 : IntKind.i64.wrap ((i : Int) + 1) = ((i + 1 : Nat) : Int) := by rw [w64 _ (by omega) (by omega)]; omega
   have hmem : l.getD i [] ∈ l := by rw [z3d l i [] hi]; exact List.getElem_mem hi
   have ha := hw _ hmem
   have hla := ha.len
   rw [if_pos (by simpa using hi), if_pos (by omega), if_pos (by omega), Int.toNat_natCast, e4]
   by_cases c1 : (l.getD i []).length <= n
   ·rw [if_pos (by rw [decide_eq_false_iff_not]; omega)]
    rcases wu7 ha n m 0 (by omega) (by omega) (fun k hk => by omega) with ⟨k, d, g⟩ | ⟨h, g⟩
    ·have g : z03 m (l.getD i []) ((l.getD i []).length : Int) 0 (n : Int) = _ := g
     rw [g]
     simp only
     rw [if_pos (decide_eq_true (show (k : Int) >= 0 by omega))]
     exact ⟨false, rfl, fun h => by cases h⟩
    ·have g : z03 m (l.getD i []) ((l.getD i []).length : Int) 0 (n : Int) = _ := g
     rw [g]
     simp only
     refine yt7 hl hw n m (i + 1) (by omega) (by omega) fun a hm => ?_
     rw [List.take_succ_eq_append_getElem hi, List.mem_append, List.mem_singleton] at hm
     rcases hm with hm | rfl
     ·exact h3 a hm
     ·rw [<- z3d l i [] hi]; exact ⟨c1, h⟩
   ·rw [if_neg (by rw [decide_eq_false_iff_not]; omega)]
    exact ⟨false, rfl, fun h => by cases h⟩
  ·rw [if_neg (by simpa using hi)]
   rw [List.take_of_length_le (by omega)] at h3
   exact ⟨true, rfl, fun _ => h3⟩
theorem w90 {l : List (List (List ByteArray))} (hl : l.length <= 10) (hw : ∀ a, a ∈ l -> WM a) (n : Nat) : ∃ r : Bool, z4j fuel (n : Int) l = some r /\ (r = true -> ∀ a, a ∈ l -> Sm n a) := by
 have hf := z82 (n := 2 ^ 100) (by decide)
 obtain ⟨r, h1, h2⟩ := yt7 hl hw n fuel 0 (by omega) (by omega) (fun a ha => by simp at ha)
 unfold z4j
 exact ⟨r, h1, h2⟩
end Go.Proofs.YtcdcoeofhnfjdabGreatDoor
namespace Go.Proofs.YtcdcoeofhnfjdabGreatDoor
open Go Vm
end Go.Proofs.YtcdcoeofhnfjdabGreatDoor
namespace Go.Proofs.YtcdcoeofhnfjdabGreatDoor
open Go Vm
def mi (j k : Nat) : Nat := if k < j then k else k + 1
def sg (j : Nat) : Rat := if j % 2 = 0 then 1 else -1
theorem v07 (j : Nat) : sg (j + 1) = - sg j := by
 unfold sg
 by_cases h : j % 2 = 0
 ·rw [if_pos h, if_neg (by omega)]
 ·rw [if_neg h, if_pos (by omega)]; grind
def det : Nat -> (Nat -> Nat -> Rat) -> Rat
 | 0, _ => 1
 | n + 1, M => fs (fun j => sg j * M 0 j * det n fun i k => M (i + 1) (mi j k)) (n + 1)
def upd (c : Nat) (v : Nat -> Rat) (M : Nat -> Nat -> Rat) (i k : Nat) : Rat := if k = c then v i else M i k
theorem v1p {j k n : Nat} (h : k < n) : mi j k < n + 1 := by unfold mi; split <;> omega
theorem y8k : ∀ {n : Nat} {M M' : Nat -> Nat -> Rat}, (∀ i, i < n -> ∀ k, k < n -> M i k = M' i k) -> det n M = det n M'
 | 0, _, _, _ => rfl
 | n + 1, M, M', h => z1h fun j hj => by
  rw [h 0 (by omega) j hj, y8k fun i hi k hk => h (i + 1) (by omega) (mi j k) (v1p hk)]
def dn (j c : Nat) : Nat := if c < j then c else c - 1
theorem v1o {j c k : Nat} (h : c ≠ j) : mi j k = c ↔ k = dn j c := by
 unfold mi dn
 by_cases h1 : k < j <;> by_cases h2 : c < j
 ·rw [if_pos h1, if_pos h2]
 ·rw [if_pos h1, if_neg h2]; omega
 ·rw [if_neg h1, if_pos h2]; omega
 ·rw [if_neg h1, if_neg h2]; omega
theorem v2s (j k : Nat) : mi j k ≠ j := by unfold mi; split <;> omega
theorem v2o {j c n : Nat} (h : c ≠ j) (hc : c < n + 1) (hj : j < n + 1) : dn j c < n := by unfold dn; split <;> omega
theorem yk5 {j c : Nat} (h : c ≠ j) (v : Nat -> Rat) (M : Nat -> Nat -> Rat) : (fun i k => upd c v M (i + 1) (mi j k)) = upd (dn j c) (fun i => v (i + 1)) fun i k => M (i + 1) (mi j k) := by
 funext i k
 unfold upd
 by_cases e : mi j k = c
 ·rw [if_pos e, if_pos ((v1o h).1 e)]
 ·rw [if_neg e, if_neg fun e' => e ((v1o h).2 e')]
theorem zy0 (c : Nat) (v : Nat -> Rat) (M : Nat -> Nat -> Rat) : (fun i k => upd c v M (i + 1) (mi c k)) = fun i k => M (i + 1) (mi c k) := by
 funext i k
 unfold upd
 rw [if_neg (v2s c k)]
theorem zx5 : ∀ {n c : Nat}, c < n -> ∀ (a b : Rat) (u v : Nat -> Rat) (M : Nat -> Nat -> Rat), det n (upd c (fun i => a * u i + b * v i) M) = a * det n (upd c u M) + b * det n (upd c v M)
 | 0, _, h, _, _, _, _, _ => by omega
 | n + 1, c, hc, a, b, u, v, M => by
  show fs _ (n + 1) = a * fs _ (n + 1) + b * fs _ (n + 1)
  rw [<- z9d, <- z9d, <- ya2]
  refine z1h fun j hj => ?_
  by_cases e : c = j
  ·subst e
   rw [zy0, zy0, zy0]
   have h1 : ∀ w : Nat -> Rat, upd c w M 0 c = w 0 := fun w => if_pos rfl
   rw [h1, h1, h1]; grind
  ·rw [yk5 e, yk5 e, yk5 e]
   have h1 : ∀ w : Nat -> Rat, upd c w M 0 j = M 0 j := fun w => if_neg fun h => e h.symm
   rw [h1, h1, h1, zx5 (v2o e hc hj) a b (fun i => u (i + 1)) (fun i => v (i + 1))]; grind
theorem ws8 {f : Nat -> Rat} {c : Nat} : ∀ {n : Nat}, c + 1 < n -> (∀ j, j < n -> j ≠ c -> j ≠ c + 1 -> f j = 0) -> f c + f (c + 1) = 0 -> fs f n = 0
 | 0, h, _, _ => by omega
 | n + 1, h, h0, h2 => by
  rw [fs]
  by_cases e : n = c + 1
  ·subst e
   rw [fs]
   have : fs f c = 0 := by rw [z1h (g := fun _ => 0) fun j hj => h0 j (by omega) (by omega) (by omega), z4k]
   rw [this]; grind
  ·rw [ws8 (by omega) (fun j hj => h0 j (by omega)) h2, h0 n (by omega) (by omega) e]; grind
theorem yw9 : ∀ {n c : Nat}, c + 1 < n -> ∀ {M : Nat -> Nat -> Rat}, (∀ i, i < n -> M i c = M i (c + 1)) -> det n M = 0
 | 0, _, h, _, _ => by omega
 | n + 1, c, hc, M, h => by
  refine ws8 (c := c) hc (fun j hj h1 h2 => ?_) ?_
  ·have h0 : det n (fun i k => M (i + 1) (mi j k)) = 0 := by
    by_cases hj2 : j < c
    ·refine yw9 (c := c - 1) (by omega) fun i hi => ?_
     have e1 : mi j (c - 1) = c := by unfold mi; rw [if_neg (by omega)]; omega
     have e2 : mi j (c - 1 + 1) = c + 1 := by unfold mi; rw [if_neg (by omega)]; omega
     rw [e1, e2]; exact h (i + 1) (by omega)
    ·refine yw9 (c := c) (by omega) fun i hi => ?_
     have e1 : mi j c = c := by unfold mi; rw [if_pos (by omega)]
     have e2 : mi j (c + 1) = c + 1 := by unfold mi; rw [if_pos (by omega)]
     rw [e1, e2]; exact h (i + 1) (by omega)
   rw [h0, Rat.mul_zero]
  ·have e : det n (fun i k => M (i + 1) (mi (c + 1) k)) = det n (fun i k => M (i + 1) (mi c k)) := y8k fun i hi k hk => by
    by_cases hk1 : k = c
    ·subst hk1
     have e1 : mi (k + 1) k = k := by unfold mi; rw [if_pos (by omega)]
     have e2 : mi k k = k + 1 := by unfold mi; rw [if_neg (by omega)]
     rw [e1, e2]; exact h (i + 1) (by omega)
    ·have : mi (c + 1) k = mi c k := by
      unfold mi
      by_cases h3 : k < c
      ·rw [if_pos h3, if_pos (by omega)]
      ·rw [if_neg h3, if_neg (by omega)]
     rw [this]
   rw [e, v07, h 0 (by omega)]; grind
theorem wm6 {n c : Nat} (hc : c + 1 < n) (u v : Nat -> Rat) (M : Nat -> Nat -> Rat) : det n (upd c u (upd (c + 1) v M)) = - det n (upd c v (upd (c + 1) u M)) := by
 have comm : ∀ (x y : Nat -> Rat), upd c x (upd (c + 1) y M) = upd (c + 1) y (upd c x M) := fun x y => by
  funext i k
  unfold upd
  by_cases e1 : k = c
  ·rw [if_pos e1, if_neg (by omega), if_pos e1]
  ·rw [if_neg e1]
   by_cases e2 : k = c + 1
   ·rw [if_pos e2, if_pos e2]
   ·rw [if_neg e2, if_neg e2, if_neg e1]
 have same : ∀ x : Nat -> Rat, det n (upd c x (upd (c + 1) x M)) = 0 := fun x => yw9 hc fun i _ => by
  unfold upd
  rw [if_pos rfl, if_neg (by omega), if_pos rfl]
 have h1 := same fun i => 1 * u i + 1 * v i
 rw [zx5 (by omega), comm, comm, zx5 hc, zx5 hc, <- comm, <- comm, <- comm, <- comm, same, same] at h1
 grind
theorem y1a (c : Nat) (M : Nat -> Nat -> Rat) : upd c (fun i => M i c) M = M := by
 funext i k
 unfold upd
 by_cases e : k = c
 ·rw [if_pos e, e]
 ·rw [if_neg e]
theorem wb2 : ∀ {n : Nat} (g : Nat) {c d : Nat}, d = c + g + 1 -> d < n -> ∀ {M : Nat -> Nat -> Rat}, (∀ i, i < n -> M i c = M i d) -> det n M = 0
 | n, 0, c, d, hd, hn, M, h => by
  subst hd
  exact yw9 hn h
 | n, g + 1, c, d, hd, hn, M, h => by
  obtain ⟨e, rfl⟩ : ∃ e, d = e + 1 := ⟨c + (g + 1), by omega⟩
  have h1 := wm6 (c := e) hn (fun i => M i e) (fun i => M i (e + 1)) M
  rw [y1a (e + 1) M, y1a e M] at h1
  have h2 : det n (upd e (fun i => M i (e + 1)) (upd (e + 1) (fun i => M i e) M)) = 0 := wb2 g (c := c) (d := e) (by omega) (by omega) fun i hi => by
   unfold upd
   rw [if_neg (by omega), if_neg (by omega), if_pos rfl]
   exact h i hi
  rw [h1, h2]; grind
theorem yx0 {n c d : Nat} (hc : c < n) (hd : d < n) (hne : c ≠ d) {M : Nat -> Nat -> Rat} (h : ∀ i, i < n -> M i c = M i d) : det n M = 0 := by
 rcases Nat.lt_or_gt_of_ne hne with h1 | h1
 ·exact wb2 (d - c - 1) (by omega) hd h
 ·exact wb2 (c - d - 1) (by omega) hc fun i hi => (h i hi).symm
theorem wb4 {n c : Nat} (hc : c < n) (M : Nat -> Nat -> Rat) (x : Nat -> Rat) : ∀ m : Nat, m <= n -> det n (upd c (fun i => fs (fun j => M i j * x j) m) M) = fs (fun j => if j = c then x c * det n M else 0) m
 | 0, _ => by
  have h := zx5 hc 0 0 (fun _ => 0) (fun _ => 0) M
  have e : (fun i : Nat => (0 : Rat) * (fun _ => 0) i + 0 * (fun _ => 0) i) = fun i => fs (fun j => M i j * x j) 0 := by funext i; simp only [fs]; grind
  rw [e] at h
  rw [h]; simp only [fs]; grind
 | m + 1, hm => by
  have e : (fun i => fs (fun j => M i j * x j) (m + 1)) = fun i => 1 * (fun i => fs (fun j => M i j * x j) m) i + x m * (fun i => M i m) i := by funext i; simp only [fs]; grind
  rw [e, zx5 hc, wb4 hc M x m (by omega), fs]
  by_cases h : m = c
  ·subst h
   rw [y1a, if_pos rfl]; grind
  ·have : det n (upd c (fun i => M i m) M) = 0 := yx0 hc (show m < n by omega) (fun e => h e.symm) fun i _ => by
    unfold upd
    rw [if_pos rfl, if_neg h]
   rw [this, if_neg h]; grind
theorem wd3 {c : Nat} {v : Rat} : ∀ {n : Nat}, fs (fun j => if j = c then v else 0) n = if c < n then v else 0
 | 0 => by simp [fs]
 | n + 1 => by
  rw [fs, wd3]
  by_cases h : n = c
  ·subst h; rw [if_neg (by omega), if_pos rfl, if_pos (by omega)]; grind
  ·rw [if_neg h]
   by_cases h2 : c < n
   ·rw [if_pos h2, if_pos (by omega)]; grind
   ·rw [if_neg h2, if_neg (by omega)]; grind
theorem wa7 {n c : Nat} (hc : c < n) {M : Nat -> Nat -> Rat} {x b : Nat -> Rat} (h : ∀ i, i < n -> fs (fun j => M i j * x j) n = b i) : det n (upd c b M) = x c * det n M := by
 have e : det n (upd c b M) = det n (upd c (fun i => fs (fun j => M i j * x j) n) M) := y8k fun i hi k _ => by
  unfold upd
  split
  ·exact (h i hi).symm
  ·rfl
 rw [e, wb4 hc M x n (Nat.le_refl _), wd3, if_pos hc]
end Go.Proofs.YtcdcoeofhnfjdabGreatDoor
