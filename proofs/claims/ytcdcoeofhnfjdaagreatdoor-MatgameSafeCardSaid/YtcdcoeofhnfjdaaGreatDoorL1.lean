/- What the pure functions of this claim compute, and what follows from it: part 1. -/
import Derived.Test.YtcdcoeofhnfjdaaGreatDoorPf
import Derived.Test.YtcdcoeofhnfjdaaGreatDoorVmD
set_option maxHeartbeats 1000000
set_option linter.unusedVariables false
namespace Go.Proofs.YtcdcoeofhnfjdaaGreatDoor
open Go Vm
theorem zp8 : 1099511627776 <= fuel := z7u (by decide)
theorem w55 (a b : List Nat) (ha : Dg a) (hb : Dg b) (he : a.length = b.length) (hs : a.length <= 4194304) : ∀ (m i : Nat), i <= a.length -> i < m -> vl (a.drop i) = vl (b.drop i) ->
  z8e m (zs a) (zs b) ((i : Int) - 1) = (if vl a < vl b then some (.ret (-1, ())) else if vl b < vl a then some (.ret (1, ())) else some (.exit ()))
 | 0, i, h1, h2, h3 => by omega
 | m + 1, 0, h1, h2, h3 => by
  simp only [z8e]
  rw [if_neg (by simp)]
  have : vl a = vl b := h3
  rw [if_neg (by omega), if_neg (by omega)]
 | m + 1, i + 1, h1, h2, h3 => by
  simp only [z8e]
  have hi : ((i + 1 : Nat) : Int) - 1 = (i : Int) := by omega
  have e0 : (0 : Int) <= (i : Int) := by omega
  have e1 : (i : Int) < (a.length : Int) := by omega
  have e2 : (i : Int) < (b.length : Int) := by omega
  simp only [hi, z1f, Int.toNat_natCast, z6p, e0, e1, e2, if_true, decide_true]
  by_cases hl : a.getD i 0 < b.getD i 0
  ·have := ws2 ha hb (i := i) (by omega) (by omega) h3 hl
   rw [if_pos (by simpa using hl), if_pos this]
  ·rw [if_neg (by simpa using hl)]
   by_cases hg : b.getD i 0 < a.getD i 0
   ·have := ws2 hb ha (i := i) (by omega) (by omega) h3.symm hg
    rw [if_pos (by simpa using hg), if_neg (by omega), if_pos this]
   ·rw [if_neg (by simpa using hg), w64 _ (by omega) (by omega)]
    refine w55 a b ha hb he hs m i (by omega) (by omega) ?_
    rw [z6x a i (by omega), z6x b i (by omega), h3]
    omega
def Sz (a : Nat) : Prop := (cn a).length <= 4194304
theorem w56 {a b : Nat} (ha : Sz a) (_ : Sz b) : z4v fuel (zs (cn a)) (zs (cn b)) = some (if a < b then -1 else if b < a then 1 else 0) := by
 unfold z4v Sz at *
 have hf := zp8
 simp only [z1f]
 by_cases hn : (cn a).length = (cn b).length
 ·have h := w55 (cn a) (cn b) (y26 a) (y26 b) hn ha fuel (cn a).length (by omega) (by omega) (by rw [List.drop_of_length_le (by omega), List.drop_of_length_le (by omega)])
  simp only [y7l] at h
  rw [if_neg (by simp; omega), w64 _ (by omega) (by omega), h]
  by_cases h1 : a < b
  ·simp only [if_pos h1]
  ·by_cases h2 : b < a
   ·simp only [if_neg h1, if_pos h2]
   ·simp only [if_neg h1, if_neg h2]
 ·rw [if_pos (by simp; omega)]
  by_cases hl : (cn a).length < (cn b).length
  ·rw [if_pos (by simpa using hl), if_pos (wq0 hl)]
  ·have := wq0 (a := b) (b := a) (by omega)
   rw [if_neg (by simpa using hl), if_neg (by omega), if_pos this]
theorem ys9 (b l : List Nat) (hb : Dg b) (hl : Dg l) (hs : l.length <= 4194304) : ∀ (m i c : Nat) (out : List Nat), i <= l.length -> l.length < m + i -> out.length = i -> Dg out -> c <= 1 ->
  ∃ c' out', z5y m (zs b) (c : Int) (zs l) (l.length : Int) (i : Int) (zs out) = some (.exit (((c' : Nat) : Int), zs out', ())) /\ c' <= 1 /\ Dg out' /\ out'.length = l.length /\
   vl out' + 1000000000 ^ l.length * c' = vl out + 1000000000 ^ i * (vl (l.drop i) + vl ((b.take l.length).drop i) + c)
 | 0, i, c, out, h1, h2, h3, h4, h5 => by omega
 | m + 1, i, c, out, h1, h2, h3, h4, h5 => by
  simp only [z5y]
  by_cases hi : i < l.length
  ·have dl := z54 hl i
   have db := z54 hb i
   have e0 : (0 : Int) <= (i : Int) := by omega
   have e1 : (i : Int) < (l.length : Int) := by omega
   have e3 : (out.length + 1) * 4 <= 140737488355328 := by omega
   simp only [z1f, Int.toNat_natCast, z6p, e0, e1, e3, if_true, decide_true]
   have e4 : IntKind.i64.wrap ((i : Int) + 1) = ((i + 1 : Nat) : Int) := by rw [w64 _ (by omega) (by omega)]; omega
   rw [e4]
   by_cases hib : i < b.length
   ·have e2 : (i : Int) < (b.length : Int) := by omega
    simp (disch := omega) only [e2, if_true, decide_true, <- Int.natCast_add, yc1, w25, w27, y32]
    obtain ⟨c', out', e, k1, k2, k3, k4⟩ := ys9 b l hb hl hs m (i + 1) ((l.getD i 0 + c + b.getD i 0) / 1000000000) (out ++ [(l.getD i 0 + c + b.getD i 0) % 1000000000]) (by omega) (by omega) (by simp; omega)
     (zc0.2 ⟨h4, zo9.2 ⟨Nat.mod_lt _ (by decide), y46⟩⟩) (by omega)
    refine ⟨c', out', e, k1, k2, k3, ?_⟩
    rw [k4, zd9, h3, z6x l i hi, z6x (b.take l.length) i (by rw [List.length_take]; omega), getD_take _ _ _ hi, z5m]
    have := Nat.div_add_mod (l.getD i 0 + c + b.getD i 0) 1000000000
    simp only [vl]
    grind
   ·have e2 : ¬ (i : Int) < (b.length : Int) := by omega
    simp (disch := omega) only [e2, decide_false, Bool.false_eq_true, if_false, <- Int.natCast_add, yc1, w25, w27, y32]
    obtain ⟨c', out', e, k1, k2, k3, k4⟩ := ys9 b l hb hl hs m (i + 1) ((l.getD i 0 + c) / 1000000000) (out ++ [(l.getD i 0 + c) % 1000000000]) (by omega) (by omega) (by simp; omega)
     (zc0.2 ⟨h4, zo9.2 ⟨Nat.mod_lt _ (by decide), y46⟩⟩) (by omega)
    refine ⟨c', out', e, k1, k2, k3, ?_⟩
    rw [k4, zd9, h3, z6x l i hi, List.drop_of_length_le (show (b.take l.length).length <= i by rw [List.length_take]; omega), List.drop_of_length_le (show (b.take l.length).length <= i + 1 by rw [List.length_take]; omega), z5m]
    have := Nat.div_add_mod (l.getD i 0 + c) 1000000000
    simp only [vl]
    grind
  ·have e1 : ¬ (i : Int) < (l.length : Int) := by omega
   simp only [e1, decide_false, Bool.false_eq_true, if_false]
   refine ⟨c, out, rfl, h5, h4, by omega, ?_⟩
   rw [List.drop_of_length_le (by omega), List.drop_of_length_le (show (b.take l.length).length <= i by rw [List.length_take]; omega), show i = l.length by omega]
   simp [vl]
theorem w51 {a b : Nat} (ha : Sz a) (hl : (cn b).length <= (cn a).length) :
  ∃ c' out', z5y fuel (zs (cn b)) 0 (zs (cn a)) ((cn a).length : Int) 0 (List.replicate 0 0) = some (.exit (((c' : Nat) : Int), zs out', ())) /\ out'.length = (cn a).length /\
   (if 0 < c' then out' ++ [c'] else out') = cn (a + b) := by
 have hf := zp8
 unfold Sz at ha
 obtain ⟨c', out', e, k1, k2, k3, k4⟩ := ys9 (cn b) (cn a) (y26 b) (y26 a) ha fuel 0 0 [] (by omega) (by omega) rfl y46 (by omega)
 refine ⟨c', out', e, k3, ?_⟩
 simp only [vl, List.drop_zero, Nat.pow_zero, List.take_of_length_le hl, y7l, Nat.add_zero, Nat.zero_add, Nat.one_mul] at k4
 split
 ·rename_i h
  have : vl (out' ++ [c']) = a + b := by rw [zd9, k3, <- k4]; simp [vl]
  rw [<- this, w3e]
  ·exact zc0.2 ⟨k2, zo9.2 ⟨by omega, y46⟩⟩
  ·omega
 ·rename_i h
  obtain rfl : c' = 0 := by omega
  rw [Nat.mul_zero, Nat.add_zero] at k4
  rw [<- k4, w9g k2]
  rw [k4, k3]
  exact ye9 (by omega)
theorem v01 {a b : Nat} (ha : Sz a) (hb : Sz b) : y0o fuel (zs (cn a)) (zs (cn b)) = some (zs (cn (a + b))) := by
 unfold y0o
 have ha' := ha; have hb' := hb
 unfold Sz at ha' hb'
 have hf := zp8
 simp only [z1f]
 by_cases hl : (cn a).length < (cn b).length
 ·obtain ⟨c', out', e, k1, k2⟩ := w51 (a := b) (b := a) hb (by omega)
  rw [if_pos (by simpa using hl), w64 _ (by omega) (by omega), if_pos (by omega), if_pos (by omega), e]
  simp only [z1f]
  rw [Nat.add_comm a b, <- k2]
  by_cases hc : 0 < c'
  ·rw [if_pos (by simpa using hc), if_pos (by omega), if_pos hc, y32]
  ·rw [if_neg (by simpa using hc), if_neg hc]
 ·obtain ⟨c', out', e, k1, k2⟩ := w51 (a := a) (b := b) ha (by omega)
  rw [if_neg (by simpa using hl), w64 _ (by omega) (by omega), if_pos (by omega), if_pos (by omega), e]
  simp only [z1f]
  rw [<- k2]
  by_cases hc : 0 < c'
  ·rw [if_pos (by simpa using hc), if_pos (by omega), if_pos hc, y32]
  ·rw [if_neg (by simpa using hc), if_neg hc]
theorem y9n : ∀ (m i : Nat) (l : List Nat), Dg l -> i <= l.length -> l.length <= 4194304 -> i < m ->
  ∃ j, z2z m i (zs l) = some (.exit (j, zs l, ())) /\ l.take j = cn (vl (l.take i))
 | 0, i, l, h, h1, h2, h3 => by omega
 | m + 1, 0, l, h, h1, h2, h3 => by
  simp only [z2z]
  exact ⟨0, by simp, by simp [vl, z53]⟩
 | m + 1, i + 1, l, h, h1, h2, h3 => by
  simp only [z2z]
  have e4 : IntKind.i64.wrap (((i + 1 : Nat) : Int) - 1) = (i : Int) := by rw [w64 _ (by omega) (by omega)]; omega
  have e0 : (0 : Int) <= (i : Int) := by omega
  have e1 : (i : Int) < ((i + 1 : Nat) : Int) := by omega
  have e2 : (i : Int) <= ((i + 1 : Nat) : Int) := by omega
  have e3 : ((i + 1 : Nat) : Int) > 0 := by omega
  simp only [e4, e0, e1, e2, e3, if_true, decide_true, Int.toNat_natCast, z6p]
  by_cases h0 : l.getD i 0 = 0
  ·rw [if_pos (by rw [h0]; rfl), y7i (by omega) h0]
   exact y9n m i l h (by omega) h2 (by omega)
  ·rw [if_neg (fun e => h0 (by simpa using e))]
   exact ⟨i + 1, rfl, y7j h (by omega) h0⟩
theorem y9m : ∀ (m i : Nat) (l : List Nat), Dg l -> i <= l.length -> l.length <= 8388608 -> i < m ->
  ∃ j, z2y m i (zs l) = some (.exit (j, zs l, ())) /\ l.take j = cn (vl (l.take i))
 | 0, i, l, h, h1, h2, h3 => by omega
 | m + 1, 0, l, h, h1, h2, h3 => by
  simp only [z2y]
  exact ⟨0, by simp, by simp [vl, z53]⟩
 | m + 1, i + 1, l, h, h1, h2, h3 => by
  simp only [z2y]
  have e4 : IntKind.i64.wrap (((i + 1 : Nat) : Int) - 1) = (i : Int) := by rw [w64 _ (by omega) (by omega)]; omega
  have e0 : (0 : Int) <= (i : Int) := by omega
  have e1 : (i : Int) < ((i + 1 : Nat) : Int) := by omega
  have e2 : (i : Int) <= ((i + 1 : Nat) : Int) := by omega
  have e3 : ((i + 1 : Nat) : Int) > 0 := by omega
  simp only [e4, e0, e1, e2, e3, if_true, decide_true, Int.toNat_natCast, z6p]
  by_cases h0 : l.getD i 0 = 0
  ·rw [if_pos (by rw [h0]; rfl), y7i (by omega) h0]
   exact y9m m i l h (by omega) h2 (by omega)
  ·rw [if_neg (fun e => h0 (by simpa using e))]
   exact ⟨i + 1, rfl, y7j h (by omega) h0⟩
theorem y7h : ∀ (m i : Nat) (l : List Nat), Dg l -> i <= l.length -> l.length <= 8388608 -> i < m ->
  ∃ j, z32 m i (zs l) = some (.exit (j, zs l, ())) /\ l.take j = cn (vl (l.take i))
 | 0, i, l, h, h1, h2, h3 => by omega
 | m + 1, 0, l, h, h1, h2, h3 => by
  simp only [z32]
  exact ⟨0, by simp, by simp [vl, z53]⟩
 | m + 1, i + 1, l, h, h1, h2, h3 => by
  simp only [z32]
  have e4 : IntKind.i64.wrap (((i + 1 : Nat) : Int) - 1) = (i : Int) := by rw [w64 _ (by omega) (by omega)]; omega
  have e0 : (0 : Int) <= (i : Int) := by omega
  have e1 : (i : Int) < ((i + 1 : Nat) : Int) := by omega
  have e2 : (i : Int) <= ((i + 1 : Nat) : Int) := by omega
  have e3 : ((i + 1 : Nat) : Int) > 0 := by omega
  simp only [e4, e0, e1, e2, e3, if_true, decide_true, Int.toNat_natCast, z6p]
  by_cases h0 : l.getD i 0 = 0
  ·rw [if_pos (by rw [h0]; rfl), y7i (by omega) h0]
   exact y7h m i l h (by omega) h2 (by omega)
  ·rw [if_neg (fun e => h0 (by simpa using e))]
   exact ⟨i + 1, rfl, y7j h (by omega) h0⟩
theorem w29 : ∀ (m i : Nat) (l : List Nat), Dg l -> i <= l.length -> l.length <= 8388608 -> i < m ->
  z78 m (zs (l.take i)) = some (.exit (zs (cn (vl (l.take i))), ()))
 | 0, i, l, h, h1, h2, h3 => by omega
 | m + 1, 0, l, h, h1, h2, h3 => by
  simp only [z78]
  simp [vl, z53]
 | m + 1, i + 1, l, h, h1, h2, h3 => by
  simp only [z78]
  have hl : (zs (l.take (i + 1))).length = i + 1 := by rw [z1f, List.length_take]; omega
  have e4 : IntKind.i64.wrap (((i + 1 : Nat) : Int) - 1) = (i : Int) := by rw [w64 _ (by omega) (by omega)]; omega
  have e0 : (0 : Int) <= (i : Int) := by omega
  have e1 : (i : Int) < ((i + 1 : Nat) : Int) := by omega
  have e2 : (i : Int) <= ((i + 1 : Nat) : Int) := by omega
  have e3 : ((i + 1 : Nat) : Int) > 0 := by omega
  simp only [hl, e4, e0, e1, e2, e3, if_true, decide_true, Int.toNat_natCast, z6p]
  rw [getD_take _ _ _ (by omega)]
  by_cases h0 : l.getD i 0 = 0
  ·rw [if_pos (by rw [h0]; rfl), y7i (by omega) h0, List.drop_zero, yk4, List.take_take, Nat.min_eq_left (by omega)]
   exact w29 m i l h (by omega) h2 (by omega)
  ·rw [if_neg (fun e => h0 (by simpa using e)), <- y7j h (by omega) h0]
theorem yx2 {l : List Nat} (h : Dg l) (hs : l.length <= 8388608) : z7r fuel (zs l) = some (zs (cn (vl l))) := by
 unfold z7r
 have hf := zp8
 have := w29 fuel l.length l h (by omega) hs (by omega)
 rw [List.take_length] at this
 rw [this]
end Go.Proofs.YtcdcoeofhnfjdaaGreatDoor
namespace Go.Proofs.YtcdcoeofhnfjdaaGreatDoor
open Go Vm
theorem w6q (a b : List Nat) (ha : Dg a) (hb : Dg b) (hs : a.length <= 4194304) : ∀ (m i d : Nat) (out : List Nat), i <= a.length -> a.length < m + i -> out.length = a.length -> Dg out -> d <= 1 -> (∀ j, i <= j -> out.getD j 0 = 0) ->
  ∃ d' out', z4e m (zs a) (zs b) (d : Int) (a.length : Int) (i : Int) (zs out) = some (.exit (zs out', ())) /\ d' <= 1 /\ Dg out' /\ out'.length = a.length /\
   vl out' + 1000000000 ^ i * (vl ((b.take a.length).drop i) + d) = vl out + 1000000000 ^ i * vl (a.drop i) + 1000000000 ^ a.length * d'
 | 0, i, d, out, h1, h2, h3, h4, h5, h6 => by omega
 | m + 1, i, d, out, h1, h2, h3, h4, h5, h6 => by
  simp only [z4e]
  by_cases hi : i < a.length
  ·have da := z54 ha i
   have db := z54 hb i
   have e0 : (0 : Int) <= (i : Int) := by omega
   have e1 : (i : Int) < (a.length : Int) := by omega
   have e5 : (i : Int) < (out.length : Int) := by omega
   have e4 : IntKind.i64.wrap ((i : Int) + 1) = ((i + 1 : Nat) : Int) := by rw [w64 _ (by omega) (by omega)]; omega
   simp only [z1f, Int.toNat_natCast, z6p, e0, e1, e5, if_true, decide_true, e4]
   have step : ∀ (y d1 v : Nat), y = (b.take a.length).getD i 0 -> d1 <= 1 -> v < 1000000000 -> v + d + y = a.getD i 0 + 1000000000 * d1 -> vl ((b.take a.length).drop i) = y + 1000000000 * vl ((b.take a.length).drop (i + 1)) ->
     ∃ d' out', z4e m (zs a) (zs b) (d1 : Int) (a.length : Int) ((i + 1 : Nat) : Int) (zs (out.set i v)) = some (.exit (zs out', ())) /\ d' <= 1 /\ Dg out' /\ out'.length = a.length /\
      vl out' + 1000000000 ^ i * (vl ((b.take a.length).drop i) + d) = vl out + 1000000000 ^ i * vl (a.drop i) + 1000000000 ^ a.length * d' := by
    intro y d1 v hy hd1 hv he hby
    obtain ⟨d', out', e, k1, k2, k3, k4⟩ := w6q a b ha hb hs m (i + 1) d1 (out.set i v) (by omega) (by omega) (by rw [List.length_set]; exact h3) (yf3 h4 hv) hd1
     (fun j hj => by rw [z5a _ _ _ _ _ (by omega)]; exact h6 j (by omega))
    refine ⟨d', out', e, k1, k2, k3, ?_⟩
    have hs := y9o out i v (by omega)
    rw [h6 i (by omega)] at hs
    rw [hby, z6x a i hi]
    rw [z5m] at k4
    grind
   by_cases hib : i < b.length
   ·have e2 : (i : Int) < (b.length : Int) := by omega
    have hby : vl ((b.take a.length).drop i) = b.getD i 0 + 1000000000 * vl ((b.take a.length).drop (i + 1)) := by
     rw [z6x (b.take a.length) i (by rw [List.length_take]; omega), getD_take _ _ _ hi]
    have hy : b.getD i 0 = (b.take a.length).getD i 0 := (getD_take _ _ _ hi).symm
    simp (disch := omega) only [e2, if_true, decide_true, w64]
    by_cases hn : a.getD i 0 < d + b.getD i 0
    ·rw [if_pos (by simp only [decide_eq_true_eq]; omega), show ((a.getD i 0 : Nat) : Int) - (d : Int) - ((b.getD i 0 : Nat) : Int) + 1000000000 = ((a.getD i 0 + 1000000000 - d - b.getD i 0 : Nat) : Int) by omega, yc1 (by omega), zl9]
     exact step (b.getD i 0) 1 _ hy (by omega) (by omega) (by omega) hby
    ·rw [if_neg (by simp only [decide_eq_true_eq]; omega), show ((a.getD i 0 : Nat) : Int) - (d : Int) - ((b.getD i 0 : Nat) : Int) = ((a.getD i 0 - d - b.getD i 0 : Nat) : Int) by omega, yc1 (by omega), zl9]
     exact step (b.getD i 0) 0 _ hy (by omega) (by omega) (by omega) hby
   ·have e2 : ¬ (i : Int) < (b.length : Int) := by omega
    have hz : (b.take a.length).drop i = [] := List.drop_of_length_le (by rw [List.length_take]; omega)
    have hz' : (b.take a.length).drop (i + 1) = [] := List.drop_of_length_le (by rw [List.length_take]; omega)
    have hy : 0 = (b.take a.length).getD i 0 := by rw [List.getD_eq_getElem?_getD, List.getElem?_eq_none (by rw [List.length_take]; omega)]; rfl
    simp (disch := omega) only [e2, decide_false, Bool.false_eq_true, if_false, w64]
    by_cases hn : a.getD i 0 < d
    ·rw [if_pos (by simp only [decide_eq_true_eq]; omega), show ((a.getD i 0 : Nat) : Int) - (d : Int) + 1000000000 = ((a.getD i 0 + 1000000000 - d : Nat) : Int) by omega, yc1 (by omega), zl9]
     exact step 0 1 _ hy (by omega) (by omega) (by omega) (by rw [hz, hz']; rfl)
    ·rw [if_neg (by simp only [decide_eq_true_eq]; omega), show ((a.getD i 0 : Nat) : Int) - (d : Int) = ((a.getD i 0 - d : Nat) : Int) by omega, yc1 (by omega), zl9]
     exact step 0 0 _ hy (by omega) (by omega) (by omega) (by rw [hz, hz']; rfl)
  ·have e1 : ¬ (i : Int) < (a.length : Int) := by omega
   simp only [e1, decide_false, Bool.false_eq_true, if_false]
   refine ⟨d, out, rfl, h5, h4, h3, ?_⟩
   rw [List.drop_of_length_le (show a.length <= i by omega), List.drop_of_length_le (show (b.take a.length).length <= i by rw [List.length_take]; omega), show i = a.length by omega]
   simp [vl]
theorem yb8 (n j : Nat) : (List.replicate n 0).getD j 0 = 0 := by
 simp only [List.getD_eq_getElem?_getD, List.getElem?_replicate]; split <;> rfl
theorem wr7 {a b : Nat} (ha : Sz a) (h : b <= a) : zp3 fuel (zs (cn a)) (zs (cn b)) = some (zs (cn (a - b))) := by
 unfold zp3
 unfold Sz at ha
 have hf := zp8
 have hl := ye9 h
 obtain ⟨d', out', e, k1, k2, k3, k4⟩ := w6q (cn a) (cn b) (y26 a) (y26 b) ha fuel 0 0 (List.replicate (cn a).length 0) (by omega) (by omega) (by simp) (w59 _) (by omega) (fun j _ => yb8 _ j)
 have e : z4e fuel (zs (cn a)) (zs (cn b)) 0 ((cn a).length : Int) 0 (zs (List.replicate (cn a).length 0)) = _ := e
 simp only [z1f, Int.toNat_natCast]
 rw [if_pos (by omega), if_pos (by omega), if_pos (by omega), w2e, e]
 simp only [z1f]
 obtain ⟨j, e2, k5⟩ := y9n fuel out'.length out' k2 (by omega) (by omega) (by omega)
 rw [e2]
 simp only [List.drop_zero, Nat.pow_zero, Nat.one_mul, List.take_of_length_le hl, y7l, w2b, Nat.zero_add, Nat.add_zero] at k4
 have hlt := yj9 k2
 rw [k3] at hlt
 have hd : d' = 0 := by
  rcases Nat.eq_zero_or_pos d' with h0 | h0
  ·exact h0
  ·obtain rfl : d' = 1 := by omega
   omega
 subst hd
 rw [List.take_length] at k5
 show some ((zs out').take j) = _
 rw [yk4, k5, show vl out' = a - b by omega]
theorem y72 {x y : Nat} (hx : x < 1000000000) (hy : y < 1000000000) : x * y <= 999999998000000001 := by
 have := Nat.mul_le_mul (show x <= 999999999 by omega) (show y <= 999999999 by omega)
 omega
theorem yq3 (b : List Nat) (hb : Dg b) (x i : Nat) (hx : x < 1000000000) (hs : b.length <= 4194304) (hi : i <= 4194304) : ∀ (m k c : Nat) (out : List Nat), k <= b.length -> b.length < m + k -> i + b.length < out.length -> Dg out -> c < 1000000000 ->
  ∃ c' out', z8h m (i : Int) (x : Int) (c : Int) (zs b) (b.length : Int) (k : Int) (zs out) = some (.exit (((c' : Nat) : Int), zs out', ())) /\ c' < 1000000000 /\ Dg out' /\ out'.length = out.length /\
   (∀ j, i + b.length <= j -> out'.getD j 0 = out.getD j 0) /\ vl out' + 1000000000 ^ (i + b.length) * c' = vl out + 1000000000 ^ (i + k) * (x * vl (b.drop k) + c)
 | 0, k, c, out, h1, h2, h3, h4, h5 => by omega
 | m + 1, k, c, out, h1, h2, h3, h4, h5 => by
  simp only [z8h]
  by_cases hk : k < b.length
  ·have db := z54 hb k
   have dout := z54 h4 (i + k)
   have hp := y72 hx db
   have e0 : (0 : Int) <= (k : Int) := by omega
   have e1 : (k : Int) < (b.length : Int) := by omega
   have e6 : IntKind.i64.wrap ((i : Int) + (k : Int)) = ((i + k : Nat) : Int) := by rw [w64 _ (by omega) (by omega)]; omega
   have e5 : ((i + k : Nat) : Int) < (out.length : Int) := by omega
   have e7 : (0 : Int) <= ((i + k : Nat) : Int) := by omega
   have e4 : IntKind.i64.wrap ((k : Int) + 1) = ((k + 1 : Nat) : Int) := by rw [w64 _ (by omega) (by omega)]; omega
   simp only [z1f, Int.toNat_natCast, z6p, e0, e1, e6, e5, e7, if_true, decide_true, e4]
   simp (disch := omega) only [<- Int.natCast_mul, <- Int.natCast_add, w4s, yc1, w25, w27, zl9]
   obtain ⟨c', out', e, k1, k2, k3, k4, k5⟩ := yq3 b hb x i hx hs hi m (k + 1) ((x * b.getD k 0 + out.getD (i + k) 0 + c) / 1000000000) (out.set (i + k) ((x * b.getD k 0 + out.getD (i + k) 0 + c) % 1000000000)) (by omega) (by omega)
    (by rw [List.length_set]; exact h3) (yf3 h4 (Nat.mod_lt _ (by decide))) (by omega)
   refine ⟨c', out', e, k1, k2, by rw [k3, List.length_set], fun j hj => by rw [k4 j hj, z5a _ _ _ _ _ (by omega)], ?_⟩
   have hs := y9o out (i + k) ((x * b.getD k 0 + out.getD (i + k) 0 + c) % 1000000000) (by omega)
   have := Nat.div_add_mod (x * b.getD k 0 + out.getD (i + k) 0 + c) 1000000000
   rw [z6x b k hk]
   rw [<- Nat.add_assoc i k 1, z5m] at k5
   generalize (x * b.getD k 0 + out.getD (i + k) 0 + c) % 1000000000 = r at *
   generalize (x * b.getD k 0 + out.getD (i + k) 0 + c) / 1000000000 = q at *
   grind
  ·have e1 : ¬ (k : Int) < (b.length : Int) := by omega
   simp only [e1, decide_false, Bool.false_eq_true, if_false]
   refine ⟨c, out, rfl, h5, h4, rfl, fun _ _ => rfl, ?_⟩
   rw [List.drop_of_length_le (by omega), show k = b.length by omega]
   simp [vl]
theorem w60 (a b : List Nat) (ha : Dg a) (hb : Dg b) (hsa : a.length <= 4194304) (hs : b.length <= 4194304) : ∀ (m i : Nat) (out : List Nat), i <= a.length -> a.length + 8388608 < m + i -> out.length = a.length + b.length -> Dg out -> (∀ j, i + b.length <= j -> out.getD j 0 = 0) ->
  ∃ out', z8g m (zs b) (zs a) (a.length : Int) (i : Int) (zs out) = some (.exit (zs out', ())) /\ Dg out' /\ out'.length = a.length + b.length /\
   vl out' = vl out + 1000000000 ^ i * (vl (a.drop i) * vl b)
 | 0, i, out, h1, h2, h3, h4, h5 => by omega
 | m + 1, i, out, h1, h2, h3, h4, h5 => by
  simp only [z8g]
  by_cases hi : i < a.length
  ·have da := z54 ha i
   have e0 : (0 : Int) <= (i : Int) := by omega
   have e1 : (i : Int) < (a.length : Int) := by omega
   have e6 : IntKind.i64.wrap ((i : Int) + (b.length : Int)) = ((i + b.length : Nat) : Int) := by rw [w64 _ (by omega) (by omega)]; omega
   have e7 : (0 : Int) <= ((i + b.length : Nat) : Int) := by omega
   have e4 : IntKind.i64.wrap ((i : Int) + 1) = ((i + 1 : Nat) : Int) := by rw [w64 _ (by omega) (by omega)]; omega
   obtain ⟨c', out1, e, k1, k2, k3, k4, k5⟩ := yq3 b hb (a.getD i 0) i da hs (by omega) m 0 0 out (by omega) (by omega) (by omega) h4 (by omega)
   have e : z8h m (i : Int) ((a.getD i 0 : Nat) : Int) 0 (zs b) (b.length : Int) 0 (zs out) = _ := e
   simp only [z1f, Int.toNat_natCast, z6p, e0, e1, if_true, decide_true, e4, e, e6, e7]
   rw [if_pos (by omega), yc1 (by omega), zl9]
   obtain ⟨out', g, j1, j2, j3⟩ := w60 a b ha hb hsa hs m (i + 1) (out1.set (i + b.length) c') (by omega) (by omega) (by rw [List.length_set]; omega) (yf3 k2 k1)
    (fun j hj => by rw [z5a _ _ _ _ _ (by omega), k4 j (by omega)]; exact h5 j (by omega))
   refine ⟨out', g, j1, j2, ?_⟩
   have hs2 := y9o out1 (i + b.length) c' (by omega)
   rw [k4 _ (by omega), h5 _ (by omega)] at hs2
   rw [z6x a i hi]
   rw [z5m] at j3
   simp only [List.drop_zero, Nat.add_zero] at k5
   grind
  ·have e1 : ¬ (i : Int) < (a.length : Int) := by omega
   simp only [e1, decide_false, Bool.false_eq_true, if_false]
   refine ⟨out, rfl, h4, h3, ?_⟩
   rw [List.drop_of_length_le (by omega)]
   simp [vl]
theorem y73 {a b : Nat} (ha : Sz a) (hb : Sz b) : z4w fuel (zs (cn a)) (zs (cn b)) = some (zs (cn (a * b))) := by
 unfold z4w
 unfold Sz at ha hb
 have hf := zp8
 obtain ⟨out', e, k1, k2, k3⟩ := w60 (cn a) (cn b) (y26 a) (y26 b) ha hb fuel 0 (List.replicate ((cn a).length + (cn b).length) 0) (by omega) (by omega) (by simp) (w59 _) (fun j _ => yb8 _ j)
 have e : z8g fuel (zs (cn b)) (zs (cn a)) ((cn a).length : Int) 0 (zs (List.replicate ((cn a).length + (cn b).length) 0)) = _ := e
 have e6 : IntKind.i64.wrap (((cn a).length : Int) + ((cn b).length : Int)) = (((cn a).length + (cn b).length : Nat) : Int) := by rw [w64 _ (by omega) (by omega)]; omega
 simp only [z1f, e6, Int.toNat_natCast]
 rw [if_pos (by omega), if_pos (by omega), if_pos (by omega), w2e, e]
 simp only [z1f]
 obtain ⟨j, e2, k5⟩ := y9m fuel out'.length out' k1 (by omega) (by omega) (by omega)
 rw [e2]
 rw [List.take_length] at k5
 simp only [w2b, Nat.pow_zero, List.drop_zero, y7l, Nat.zero_add, Nat.one_mul] at k3
 show some ((zs out').take j) = _
 rw [yk4, k5, k3]
theorem yq7 (a : List Nat) (ha : Dg a) (hs : a.length <= 8388608) (d : Nat) (h0 : 0 < d) (hd : d < 1000000000) : ∀ (m i r : Nat) (out : List Nat), i <= a.length -> i < m -> out.length = a.length -> Dg out -> r < d -> (∀ j, j < i -> out.getD j 0 = 0) ->
  ∃ r' out', z5l m (zs a) (d : Int) (r : Int) ((i : Int) - 1) (zs out) = some (.exit (((r' : Nat) : Int), zs out', ())) /\ Dg out' /\ out'.length = a.length /\ r' < d /\
   vl out' * d + r' = vl out * d + r * 1000000000 ^ i + vl (a.take i)
 | 0, i, r, out, h1, h2, h3, h4, h5, h6 => by omega
 | m + 1, 0, r, out, h1, h2, h3, h4, h5, h6 => by
  simp only [z5l]
  exact ⟨r, out, by simp, h4, h3, h5, by simp [vl]⟩
 | m + 1, i + 1, r, out, h1, h2, h3, h4, h5, h6 => by
  simp only [z5l]
  have da := z54 ha i
  have hi : ((i + 1 : Nat) : Int) - 1 = (i : Int) := by omega
  have e0 : (0 : Int) <= (i : Int) := by omega
  have e1 : (i : Int) < (a.length : Int) := by omega
  have e2 : (i : Int) < (out.length : Int) := by omega
  have e3 : IntKind.u64.wrap (d : Int) = (d : Int) := w4s (by omega)
  have e4 : ¬ ((d : Int) = 0) := by omega
  have hw : IntKind.i64.wrap ((i : Int) - 1) = (i : Int) - 1 := w64 _ (by omega) (by omega)
  have hq : (r * 1000000000 + a.getD i 0) / d < 1000000000 := by
   rw [Nat.div_lt_iff_lt_mul h0]
   have := Nat.mul_le_mul_right 1000000000 (show r + 1 <= d by omega)
   omega
  have hB : ((1000000000 : Int)) = ((1000000000 : Nat) : Int) := rfl
  simp only [hi, z1f, Int.toNat_natCast, z6p, e0, e1, e2, e3, e4, if_true, if_false, decide_true, hw]
  rw [hB]
  simp (disch := omega) only [<- Int.natCast_mul, <- Int.natCast_add, w4s, yc1, wo1, wy3]
  rw [zl9]
  obtain ⟨r', out', e, k1, k2, k3, k4⟩ := yq7 a ha hs d h0 hd m i ((r * 1000000000 + a.getD i 0) % d) (out.set i ((r * 1000000000 + a.getD i 0) / d)) (by omega) (by omega) (by rw [List.length_set]; exact h3) (yf3 h4 hq) (Nat.mod_lt _ h0)
   (fun j hj => by rw [z5a _ _ _ _ _ (by omega)]; exact h6 j (by omega))
  refine ⟨r', out', e, k1, k2, k3, ?_⟩
  have hs := y9o out i ((r * 1000000000 + a.getD i 0) / d) (by omega)
  rw [h6 i (by omega)] at hs
  have ht : vl (a.take (i + 1)) = vl (a.take i) + 1000000000 ^ i * a.getD i 0 := by
   rw [List.take_succ_eq_append_getElem (by omega), zd9, List.length_take, Nat.min_eq_left (by omega), z2u a i 0 (by omega)]; simp [vl]
  have := Nat.div_add_mod (r * 1000000000 + a.getD i 0) d
  rw [k4, ht, z5m]
  generalize (r * 1000000000 + a.getD i 0) % d = r1 at *
  generalize (r * 1000000000 + a.getD i 0) / d = q1 at *
  grind
theorem w6m {l : List Nat} {d : Nat} (hl : Dg l) (hs : l.length <= 8388608) (h0 : 0 < d) (hd : d < 1000000000) :
  zc3 fuel (zs l) (d : Int) = some (zs (cn (vl l / d)), zs (cn (vl l % d))) := by
 unfold zc3
 have hf := zp8
 obtain ⟨r', out', e, k1, k2, k3, k4⟩ := yq7 l hl hs d h0 hd fuel l.length 0 (List.replicate l.length 0) (by omega) (by omega) (by simp) (w59 _) h0 (fun j _ => yb8 _ j)
 have e : z5l fuel (zs l) (d : Int) 0 ((l.length : Int) - 1) (zs (List.replicate l.length 0)) = _ := e
 simp only [z1f, Int.toNat_natCast]
 rw [if_pos (by omega), if_pos (by omega), if_pos (by omega), w2e, w64 _ (by omega) (by omega), e]
 simp only
 rw [yc1 (by omega), ws3, yx2 k1 (by omega), yx2 (zo9.2 ⟨by omega, y46⟩) (by simp)]
 simp only [w2b, Nat.zero_mul, Nat.zero_add, Nat.add_zero, List.take_length] at k4
 have h1 : vl l / d = vl out' := by
  rw [<- k4, Nat.mul_comm, Nat.mul_add_div h0, Nat.div_eq_of_lt k3, Nat.add_zero]
 have h2 : vl l % d = r' := by
  rw [<- k4, Nat.mul_comm, Nat.mul_add_mod, Nat.mod_eq_of_lt k3]
 rw [h1, h2]
 simp [vl]
end Go.Proofs.YtcdcoeofhnfjdaaGreatDoor
namespace Go.Proofs.YtcdcoeofhnfjdaaGreatDoor
open Go Vm
theorem wu3 {v1 v2 vr P top u2 ur q r v R : Nat} (hv : v = vr + P * (v2 + 1000000000 * v1)) (hR : R = ur + P * (u2 + 1000000000 * top)) (hur : ur < P) (ht : q * v1 + r = top) (hc : r * 1000000000 + u2 < q * v2) : R < q * v := by
 have h1 : q * v = q * vr + P * (q * v2 + 1000000000 * (q * v1)) := by rw [hv]; grind
 have h2 : P * (u2 + 1000000000 * top + 1) <= P * (q * v2 + 1000000000 * (q * v1)) := Nat.mul_le_mul_left _ (by omega)
 rw [Nat.mul_succ] at h2
 omega
theorem w5j {v1 v2 vr P top u2 ur q r v R : Nat} (hv : v = vr + P * (v2 + 1000000000 * v1)) (hR : R = ur + P * (u2 + 1000000000 * top)) (hvr : vr < P) (h1 : 1 <= v1) (hq : q < 1000000000) (ht : q * v1 + r = top) (hc : q * v2 <= r * 1000000000 + u2) : q * v <= R + v := by
 have h2 : q * v = q * vr + P * (q * v2 + 1000000000 * (q * v1)) := by rw [hv]; grind
 have h3 : P * (q * v2 + 1000000000 * (q * v1)) <= P * (u2 + 1000000000 * top) := Nat.mul_le_mul_left _ (by omega)
 have h4 : q * vr <= P * q := by rw [Nat.mul_comm]; exact Nat.mul_le_mul_right _ (by omega)
 have h5 : P * q <= P * (v2 + 1000000000 * v1) := Nat.mul_le_mul_left _ (by omega)
 omega
theorem wu4 {v1 v2 vr P top u2 ur v R : Nat} (hv : v = vr + P * (v2 + 1000000000 * v1)) (hR : R = ur + P * (u2 + 1000000000 * top)) (hvr : vr < P) (hv2 : v2 < 1000000000) (h : R < 1000000000 * v) : top < 1000000000 * v1 + 1000000000 := by
 apply Nat.lt_of_not_le
 intro hle
 have h1 : P * (1000000000 * (1000000000 * v1 + 1000000000)) <= P * (u2 + 1000000000 * top) := Nat.mul_le_mul_left _ (by omega)
 have h2 : P * (v2 + 1000000000 * v1 + 1) <= P * (1000000000 * v1 + 1000000000) := Nat.mul_le_mul_left _ (by omega)
 rw [Nat.mul_succ] at h2
 have h3 : P * (1000000000 * (1000000000 * v1 + 1000000000)) = 1000000000 * (P * (1000000000 * v1 + 1000000000)) := by rw [Nat.mul_left_comm]
 omega
theorem w5i (u v : List Nat) (hu : Dg u) (hv : Dg v) (n k : Nat) (hn : n = v.length) (h2 : 2 <= n) (hk : k + n < u.length) (hs : u.length <= 8388608) (V R vr ur P top : Nat) (h1 : 1 <= v.getD (n - 1) 0)
  (eV : V = vr + P * (v.getD (n - 2) 0 + 1000000000 * v.getD (n - 1) 0)) (eR : R = ur + P * (u.getD (k + n - 2) 0 + 1000000000 * top)) (hvr : vr < P) (hur : ur < P) (htop : top < 1000000000 * v.getD (n - 1) 0 + 1000000000) (hRV : R < 1000000000 * V) :
  ∀ (m q r : Nat), q * v.getD (n - 1) 0 + r = top -> r < 1000000000 -> 1000000000 < m + r -> R < (q + 1) * V ->
  ∃ q' : Nat, z67 m (n : Int) (k : Int) (q : Int) (r : Int) (zs u) (zs v) = some (.exit ((q' : Int), zs u, zs v, ())) /\ q' < 1000000000 /\ R < (q' + 1) * V /\ q' * V <= R + V
 | 0, q, r, ht, hr, hm, hq => by omega
 | m + 1, q, r, ht, hr, hm, hq => by
  simp only [z67]
  have d1 := z54 hv (n - 1)
  have d2 := z54 hv (n - 2)
  have d3 := z54 hu (k + n - 2)
  have hqt : q <= top := by
   have := Nat.mul_le_mul_left q h1
   omega
  have e1 : IntKind.i64.wrap ((n : Int) - 2) = ((n - 2 : Nat) : Int) := by rw [w64 _ (by omega) (by omega)]; omega
  have e2 : IntKind.i64.wrap ((n : Int) - 1) = ((n - 1 : Nat) : Int) := by rw [w64 _ (by omega) (by omega)]; omega
  have e3 : IntKind.i64.wrap ((IntKind.i64.wrap ((k : Int) + (n : Int))) - 2) = ((k + n - 2 : Nat) : Int) := by rw [w64 ((k : Int) + (n : Int)) (by omega) (by omega), w64 _ (by omega) (by omega)]; omega
  have c1 : (0 : Int) <= ((n - 2 : Nat) : Int) := by omega
  have c2 : ((n - 2 : Nat) : Int) < (v.length : Int) := by omega
  have c3 : (0 : Int) <= ((n - 1 : Nat) : Int) := by omega
  have c4 : ((n - 1 : Nat) : Int) < (v.length : Int) := by omega
  have c5 : (0 : Int) <= ((k + n - 2 : Nat) : Int) := by omega
  have c6 : ((k + n - 2 : Nat) : Int) < (u.length : Int) := by omega
  have hB : ((1000000000 : Int)) = ((1000000000 : Nat) : Int) := rfl
  simp only [e1, e2, e3, z1f, Int.toNat_natCast, z6p, c1, c2, c3, c4, c5, c6, if_true]
  -- one step down
  have down : R < q * V -> ∃ q' : Nat, (if decide (IntKind.u64.wrap ((r : Int) + (IntKind.u64.wrap ((v.getD (n - 1) 0 : Nat) : Int))) >= 1000000000) = true then some (.exit ((IntKind.u64.wrap ((q : Int) - 1)), zs u, zs v, ()))
        else z67 m (n : Int) (k : Int) (IntKind.u64.wrap ((q : Int) - 1)) (IntKind.u64.wrap ((r : Int) + (IntKind.u64.wrap ((v.getD (n - 1) 0 : Nat) : Int)))) (zs u) (zs v)) = some (LR.exit (x := zr0) (r := zq9) ((q' : Int), zs u, zs v, ())) /\
     q' < 1000000000 /\ R < (q' + 1) * V /\ q' * V <= R + V := by
   intro hlt
   have hq0 : q ≠ 0 := fun e => by rw [e, Nat.zero_mul] at hlt; omega
   obtain ⟨p, rfl⟩ : ∃ p, q = p + 1 := ⟨q - 1, by omega⟩
   have ht' : p * v.getD (n - 1) 0 + (r + v.getD (n - 1) 0) = top := by rw [<- ht, Nat.succ_mul]; omega
   have w1 : IntKind.u64.wrap (((p + 1 : Nat) : Int) - 1) = (p : Int) := by rw [show ((p + 1 : Nat) : Int) - 1 = (p : Int) by omega, w4s (by omega)]
   rw [w1]
   simp (disch := omega) only [w4s, <- Int.natCast_add]
   by_cases hge : 1000000000 <= r + v.getD (n - 1) 0
   ·rw [if_pos (by simp only [decide_eq_true_eq]; omega)]
    have hp : p < 1000000000 := by
     apply Nat.lt_of_not_le
     intro hle
     have := Nat.mul_le_mul_right (v.getD (n - 1) 0) hle
     omega
    refine ⟨p, rfl, hp, hlt, w5j eV eR hvr h1 hp ht' ?_⟩
    have := y72 hp d2
    have : 1000000000 * 1000000000 <= (r + v.getD (n - 1) 0) * 1000000000 := Nat.mul_le_mul_right _ hge
    omega
   ·rw [if_neg (by simp only [decide_eq_true_eq]; omega)]
    exact w5i u v hu hv n k hn h2 hk hs V R vr ur P top h1 eV eR hvr hur htop hRV m p (r + v.getD (n - 1) 0) ht' (by omega) (by omega) hlt
  by_cases hqB : 1000000000 <= q
  ·rw [if_neg (by simp only [decide_eq_false_iff_not]; omega)]
   refine down ?_
   exact Nat.lt_of_lt_of_le hRV (Nat.mul_le_mul_right _ hqB)
  ·rw [if_pos (by simp only [decide_eq_false_iff_not]; omega), hB]
   have hp := y72 (show q < 1000000000 by omega) d2
   simp (disch := omega) only [w4s, <- Int.natCast_add, <- Int.natCast_mul]
   by_cases hc : r * 1000000000 + u.getD (k + n - 2) 0 < q * v.getD (n - 2) 0
   ·rw [if_pos (by simp only [decide_eq_true_eq]; omega)]
    have := down (wu3 eV eR hur ht hc)
    rw [hB] at this
    simp (disch := omega) only [w4s, <- Int.natCast_add] at this
    exact this
   ·rw [if_neg (by simp only [decide_eq_true_eq]; omega)]
    exact ⟨q, rfl, by omega, hq, w5j eV eR hvr h1 (by omega) ht (by omega)⟩
end Go.Proofs.YtcdcoeofhnfjdaaGreatDoor
namespace Go.Proofs.YtcdcoeofhnfjdaaGreatDoor
open Go Vm
theorem take_same {a b : List Nat} {k : Nat} (hl : a.length = b.length) (h : ∀ j, j < k -> a.getD j 0 = b.getD j 0) : a.take k = b.take k := by
 apply List.ext_getElem
 ·simp [hl]
 ·intro i h1 h2
  simp only [List.length_take] at h1 h2
  rw [List.getElem_take, List.getElem_take, <- z2u a i 0 (by omega), <- z2u b i 0 (by omega)]
  exact h i (by omega)
theorem w0p {a b : List Nat} {k : Nat} (hl : a.length = b.length) (h : ∀ j, k <= j -> a.getD j 0 = b.getD j 0) : a.drop k = b.drop k := by
 apply List.ext_getElem
 ·simp [hl]
 ·intro i h1 h2
  simp only [List.length_drop] at h1 h2
  rw [List.getElem_drop, List.getElem_drop, <- z2u a (k + i) 0 (by omega), <- z2u b (k + i) 0 (by omega)]
  exact h (k + i) (by omega)
theorem yq0 (v : List Nat) (hv : Dg v) (q : Nat) (hq : q < 1000000000) (k : Nat) (hs : k + v.length < 8388608) : ∀ (m i d c : Nat) (u : List Nat), i <= v.length + 1 -> v.length + 1 < m + i -> k + v.length < u.length -> Dg u -> d <= 1 -> c < 1000000000 -> (i = v.length + 1 -> c = 0) ->
  ∃ d' u', z13 m (k : Int) (q : Int) (d : Int) (c : Int) (i : Int) (zs u) (zs v) = some (.exit (((d' : Nat) : Int), zs u', zs v, ())) /\ d' <= 1 /\ Dg u' /\ u'.length = u.length /\ (∀ j, j < k + i -> u'.getD j 0 = u.getD j 0) /\ (∀ j, k + v.length < j -> u'.getD j 0 = u.getD j 0) /\
   vl u' + 1000000000 ^ (k + i) * (q * vl (v.drop i) + c + d) = vl u + 1000000000 ^ (k + v.length + 1) * d'
 | 0, i, d, c, u, h1, h2, h3, h4, h5, h6, h7 => by omega
 | m + 1, i, d, c, u, h1, h2, h3, h4, h5, h6, h7 => by
  simp only [z13]
  by_cases hi : i <= v.length
  ·have du := z54 h4 (k + i)
   have e0 : (0 : Int) <= (i : Int) := by omega
   have e1 : (i : Int) <= (v.length : Int) := by omega
   have e6 : IntKind.i64.wrap ((k : Int) + (i : Int)) = ((k + i : Nat) : Int) := by rw [w64 _ (by omega) (by omega)]; omega
   have e5 : ((k + i : Nat) : Int) < (u.length : Int) := by omega
   have e7 : (0 : Int) <= ((k + i : Nat) : Int) := by omega
   have e4 : IntKind.i64.wrap ((i : Int) + 1) = ((i + 1 : Nat) : Int) := by rw [w64 _ (by omega) (by omega)]; omega
   simp only [z1f, Int.toNat_natCast, z6p, e0, e1, e6, e5, e7, if_true, decide_true, e4]
   have step : ∀ (t c1 r d1 x : Nat), c1 < 1000000000 -> r < 1000000000 -> 1000000000 * c1 + r = t -> d1 <= 1 -> x < 1000000000 -> x + r + d = u.getD (k + i) 0 + 1000000000 * d1 -> (i = v.length -> c1 = 0) -> q * vl (v.drop i) + c = t + 1000000000 * (q * vl (v.drop (i + 1))) ->
     ∃ d' u', z13 m (k : Int) (q : Int) (d1 : Int) (c1 : Int) ((i + 1 : Nat) : Int) (zs (u.set (k + i) x)) (zs v) = some (.exit (((d' : Nat) : Int), zs u', zs v, ())) /\ d' <= 1 /\ Dg u' /\ u'.length = u.length /\ (∀ j, j < k + i -> u'.getD j 0 = u.getD j 0) /\ (∀ j, k + v.length < j -> u'.getD j 0 = u.getD j 0) /\
      vl u' + 1000000000 ^ (k + i) * (q * vl (v.drop i) + c + d) = vl u + 1000000000 ^ (k + v.length + 1) * d' := by
    intro t c1 r d1 x hc1 hr ht hd1 hx he hz hq'
    obtain ⟨d', u', e, k1, k2, k3, k4, k5, k6⟩ := yq0 v hv q hq k hs m (i + 1) d1 c1 (u.set (k + i) x) (by omega) (by omega) (by rw [List.length_set]; exact h3) (yf3 h4 hx) hd1 hc1 (fun h => hz (by omega))
    refine ⟨d', u', e, k1, k2, by rw [k3, List.length_set], fun j hj => by rw [k4 j (by omega), z5a _ _ _ _ _ (by omega)], fun j hj => by rw [k5 j hj, z5a _ _ _ _ _ (by omega)], ?_⟩
    have hs := y9o u (k + i) x (by omega)
    rw [<- Nat.add_assoc k i 1, z5m] at k6
    rw [hq']
    grind
   by_cases hib : i < v.length
   ·have dv := z54 hv i
    have hp := y72 hq dv
    have e2 : (i : Int) < (v.length : Int) := by omega
    have hV : q * vl (v.drop i) + c = (c + q * v.getD i 0) + 1000000000 * (q * vl (v.drop (i + 1))) := by rw [z6x v i hib]; grind
    simp (disch := omega) only [e2, if_true, decide_true, <- Int.natCast_mul, <- Int.natCast_add, w4s, w25, w27, w64]
    have hdm := Nat.div_add_mod (c + q * v.getD i 0) 1000000000
    generalize hr : (c + q * v.getD i 0) % 1000000000 = r at *
    generalize hc1 : (c + q * v.getD i 0) / 1000000000 = c1 at *
    have hr' : r < 1000000000 := by omega
    have hc1' : c1 < 1000000000 := by omega
    by_cases hn : u.getD (k + i) 0 < r + d
    ·rw [if_pos (by simp only [decide_eq_true_eq]; omega), show ((u.getD (k + i) 0 : Nat) : Int) - (r : Int) - (d : Int) + 1000000000 = ((u.getD (k + i) 0 + 1000000000 - r - d : Nat) : Int) by omega, yc1 (by omega), zl9]
     exact step _ c1 r 1 _ hc1' hr' hdm (by omega) (by omega) (by omega) (by omega) hV
    ·rw [if_neg (by simp only [decide_eq_true_eq]; omega), show ((u.getD (k + i) 0 : Nat) : Int) - (r : Int) - (d : Int) = ((u.getD (k + i) 0 - r - d : Nat) : Int) by omega, yc1 (by omega), zl9]
     exact step _ c1 r 0 _ hc1' hr' hdm (by omega) (by omega) (by omega) (by omega) hV
   ·have e2 : ¬ (i : Int) < (v.length : Int) := by omega
    have hV : q * vl (v.drop i) + c = c + 1000000000 * (q * vl (v.drop (i + 1))) := by
     rw [List.drop_of_length_le (show v.length <= i by omega), List.drop_of_length_le (show v.length <= i + 1 by omega)]; simp [vl]
    simp (disch := omega) only [e2, decide_false, Bool.false_eq_true, if_false, w4s, w25, w27, w64]
    rw [Nat.mod_eq_of_lt h6, Nat.div_eq_of_lt h6]
    by_cases hn : u.getD (k + i) 0 < c + d
    ·rw [if_pos (by simp only [decide_eq_true_eq]; omega), show ((u.getD (k + i) 0 : Nat) : Int) - (c : Int) - (d : Int) + 1000000000 = ((u.getD (k + i) 0 + 1000000000 - c - d : Nat) : Int) by omega, yc1 (by omega), zl9]
     exact step _ 0 c 1 _ (by omega) h6 (by omega) (by omega) (by omega) (by omega) (by omega) hV
    ·rw [if_neg (by simp only [decide_eq_true_eq]; omega), show ((u.getD (k + i) 0 : Nat) : Int) - (c : Int) - (d : Int) = ((u.getD (k + i) 0 - c - d : Nat) : Int) by omega, yc1 (by omega), zl9]
     exact step _ 0 c 0 _ (by omega) h6 (by omega) (by omega) (by omega) (by omega) (by omega) hV
  ·have e1 : ¬ (i : Int) <= (v.length : Int) := by omega
   simp only [z1f, e1, decide_false, Bool.false_eq_true, if_false]
   obtain rfl : i = v.length + 1 := by omega
   refine ⟨d, u, rfl, h5, h4, rfl, fun _ _ => rfl, fun _ _ => rfl, ?_⟩
   rw [List.drop_of_length_le (by omega), h7 rfl]
   simp [vl, Nat.add_assoc]
theorem w1j (v : List Nat) (hv : Dg v) (k : Nat) (hs : k + v.length < 8388608) : ∀ (m i c : Nat) (u : List Nat), i <= v.length + 1 -> v.length + 1 < m + i -> k + v.length < u.length -> Dg u -> c <= 1 ->
  ∃ c' u', z1u m (k : Int) (c : Int) (i : Int) (zs u) (zs v) = some (.exit (zs u', zs v, ())) /\ c' <= 1 /\ Dg u' /\ u'.length = u.length /\ (∀ j, j < k + i -> u'.getD j 0 = u.getD j 0) /\ (∀ j, k + v.length < j -> u'.getD j 0 = u.getD j 0) /\
   vl u' + 1000000000 ^ (k + v.length + 1) * c' = vl u + 1000000000 ^ (k + i) * (vl (v.drop i) + c)
 | 0, i, c, u, h1, h2, h3, h4, h5 => by omega
 | m + 1, i, c, u, h1, h2, h3, h4, h5 => by
  simp only [z1u]
  by_cases hi : i <= v.length
  ·have du := z54 h4 (k + i)
   have dv := z54 hv i
   have e0 : (0 : Int) <= (i : Int) := by omega
   have e1 : (i : Int) <= (v.length : Int) := by omega
   have e6 : IntKind.i64.wrap ((k : Int) + (i : Int)) = ((k + i : Nat) : Int) := by rw [w64 _ (by omega) (by omega)]; omega
   have e5 : ((k + i : Nat) : Int) < (u.length : Int) := by omega
   have e7 : (0 : Int) <= ((k + i : Nat) : Int) := by omega
   have e4 : IntKind.i64.wrap ((i : Int) + 1) = ((i + 1 : Nat) : Int) := by rw [w64 _ (by omega) (by omega)]; omega
   simp only [z1f, Int.toNat_natCast, z6p, e0, e1, e6, e5, e7, if_true, decide_true, e4]
   have step : ∀ (t : Nat), t < 2000000000 -> vl (v.drop i) + c + u.getD (k + i) 0 = t + 1000000000 * vl (v.drop (i + 1)) ->
     ∃ c' u', z1u m (k : Int) ((t / 1000000000 : Nat) : Int) ((i + 1 : Nat) : Int) (zs (u.set (k + i) (t % 1000000000))) (zs v) = some (.exit (zs u', zs v, ())) /\ c' <= 1 /\ Dg u' /\ u'.length = u.length /\ (∀ j, j < k + i -> u'.getD j 0 = u.getD j 0) /\ (∀ j, k + v.length < j -> u'.getD j 0 = u.getD j 0) /\
      vl u' + 1000000000 ^ (k + v.length + 1) * c' = vl u + 1000000000 ^ (k + i) * (vl (v.drop i) + c) := by
    intro t ht he
    obtain ⟨c', u', e, k1, k2, k3, k4, k5, k6⟩ := w1j v hv k hs m (i + 1) (t / 1000000000) (u.set (k + i) (t % 1000000000)) (by omega) (by omega) (by rw [List.length_set]; exact h3) (yf3 h4 (Nat.mod_lt _ (by decide))) (by omega)
    refine ⟨c', u', e, k1, k2, by rw [k3, List.length_set], fun j hj => by rw [k4 j (by omega), z5a _ _ _ _ _ (by omega)], fun j hj => by rw [k5 j hj, z5a _ _ _ _ _ (by omega)], ?_⟩
    have hs := y9o u (k + i) (t % 1000000000) (by omega)
    have hdm := Nat.div_add_mod t 1000000000
    rw [<- Nat.add_assoc k i 1, z5m] at k6
    generalize t % 1000000000 = r at *
    generalize t / 1000000000 = q at *
    grind
   by_cases hib : i < v.length
   ·have e2 : (i : Int) < (v.length : Int) := by omega
    simp (disch := omega) only [e2, if_true, decide_true, <- Int.natCast_add, yc1, w25, w27, zl9]
    exact step (u.getD (k + i) 0 + c + v.getD i 0) (by omega) (by rw [z6x v i hib]; omega)
   ·have e2 : ¬ (i : Int) < (v.length : Int) := by omega
    simp (disch := omega) only [e2, decide_false, Bool.false_eq_true, if_false, <- Int.natCast_add, yc1, w25, w27, zl9]
    exact step (u.getD (k + i) 0 + c) (by omega) (by rw [List.drop_of_length_le (show v.length <= i by omega), List.drop_of_length_le (show v.length <= i + 1 by omega)]; simp only [vl]; omega)
  ·have e1 : ¬ (i : Int) <= (v.length : Int) := by omega
   simp only [z1f, e1, decide_false, Bool.false_eq_true, if_false]
   obtain rfl : i = v.length + 1 := by omega
   refine ⟨c, u, rfl, h5, h4, rfl, fun _ _ => rfl, fun _ _ => rfl, ?_⟩
   rw [List.drop_of_length_le (by omega)]
   simp [vl, Nat.add_assoc]
end Go.Proofs.YtcdcoeofhnfjdaaGreatDoor
namespace Go.Proofs.YtcdcoeofhnfjdaaGreatDoor
open Go Vm
theorem wa1 {v1 v2 vr P top u2 ur q v R : Nat} (hv : v = vr + P * (v2 + 1000000000 * v1)) (hR : R = ur + P * (u2 + 1000000000 * top)) (hur : ur < P) (hu2 : u2 < 1000000000) (ht : top < q * v1) : R < q * v := by
 have h1 : q * v = q * vr + P * (q * v2 + 1000000000 * (q * v1)) := by rw [hv]; grind
 have h2 : P * (u2 + 1000000000 * top + 1) <= P * (q * v2 + 1000000000 * (q * v1)) := Nat.mul_le_mul_left _ (by omega)
 rw [Nat.mul_succ] at h2
 omega
theorem window {u : List Nat} {k p : Nat} (hl : k + p + 2 < u.length) (hR : vl (u.drop k) < 1000000000 ^ (p + 3)) :
  vl (u.drop (k + p + 3)) = 0 /\ vl (u.drop k) = vl ((u.drop k).take p) + 1000000000 ^ p * (u.getD (k + p) 0 + 1000000000 * (u.getD (k + p + 2) 0 * 1000000000 + u.getD (k + p + 1) 0)) := by
 have hl' : (u.drop k).length = u.length - k := List.length_drop
 have h1 := zm6 (u.drop k) p (by omega)
 have h3 := zm6 (u.drop k) (p + 3) (by omega)
 rw [List.drop_drop] at h1 h3
 have hz : vl (u.drop (k + (p + 3))) = 0 := by
  rcases Nat.eq_zero_or_pos (vl (u.drop (k + (p + 3)))) with h | h
  ·exact h
  ·have := Nat.mul_le_mul_left (1000000000 ^ (p + 3)) h
   omega
 refine ⟨hz, ?_⟩
 rw [z6x u (k + p) (by omega), z6x u (k + p + 1) (by omega), z6x u (k + p + 1 + 1) (by omega), show k + p + 1 + 1 = k + p + 2 from rfl, show k + p + 2 + 1 = k + (p + 3) by omega, hz] at h1
 rw [h1]
 congr 2
 omega
theorem w5c (v : List Nat) (hv : Dg v) (p : Nat) (hp : v.length = p + 2) (htop : 1 <= v.getD (p + 1) 0) (L : Nat) (hL : L <= 8388600) (hpL : p + 2 < L) : ∀ (m i : Nat) (u out : List Nat), i <= L - (p + 2) -> 1010000000 < m -> i + 1010000000 < m -> u.length = L -> out.length = L - (p + 2) -> Dg u -> Dg out -> vl (u.drop i) < vl v -> (∀ j, j < i -> out.getD j 0 = 0) ->
  ∃ u' out', z5c m ((p + 2 : Nat) : Int) ((i : Int) - 1) (zs u) (zs v) (zs out) = some (.exit (zs u', zs out', zs v, ())) /\ Dg u' /\ Dg out' /\ u'.length = L /\ out'.length = L - (p + 2) /\ vl u' < vl v /\ vl out' * vl v + vl u' = vl out * vl v + vl u
 | 0, i, u, out, h1, h2, h3, h4, h5, h6, h7, h8, h9 => by omega
 | m + 1, 0, u, out, h1, h2, h3, h4, h5, h6, h7, h8, h9 => by
  simp only [z5c]
  exact ⟨u, out, by simp, h6, h7, h4, h5, h8, rfl⟩
 | m + 1, k + 1, u, out, h1, h2, h3, h4, h5, h6, h7, h8, h9 => by
  simp only [z5c]
  have hvl := yj9 hv
  rw [hp] at hvl
  have hR : vl (u.drop k) < 1000000000 * vl v := by
   rw [z6x u k (by omega)]
   have := z54 h6 k
   omega
  have hRB : vl (u.drop k) < 1000000000 ^ (p + 3) := by rw [show p + 3 = p + 2 + 1 from rfl, z5m]; omega
  obtain ⟨hz, hW⟩ := window (u := u) (k := k) (p := p) (by omega) hRB
  have hV : vl v = vl (v.take p) + 1000000000 ^ p * (v.getD p 0 + 1000000000 * v.getD (p + 1) 0) := by
   have := zm6 v p (by omega)
   rwa [z6x v p (by omega), z6x v (p + 1) (by omega), List.drop_of_length_le (show v.length <= p + 1 + 1 by omega), vl, Nat.mul_zero, Nat.add_zero] at this
  have hvr : vl (v.take p) < 1000000000 ^ p := by
   have := yj9 (yf4 hv p)
   rwa [List.length_take, Nat.min_eq_left (by omega)] at this
  have hur : vl ((u.drop k).take p) < 1000000000 ^ p := by
   have := yj9 (yf4 (w3k h6 k) p)
   rwa [List.length_take, List.length_drop, Nat.min_eq_left (by omega)] at this
  have d0 := z54 h6 (k + p + 1)
  have d1 := z54 h6 (k + p + 2)
  have d2 := z54 hv (p + 1)
  have d3 := z54 hv p
  have e1 : IntKind.i64.wrap ((k : Int) + ((p + 2 : Nat) : Int)) = ((k + p + 2 : Nat) : Int) := by rw [w64 _ (by omega) (by omega)]; omega
  have e2 : IntKind.i64.wrap (((k + p + 2 : Nat) : Int) - 1) = ((k + p + 1 : Nat) : Int) := by rw [w64 _ (by omega) (by omega)]; omega
  have e3 : IntKind.i64.wrap (((p + 2 : Nat) : Int) - 1) = ((p + 1 : Nat) : Int) := by rw [w64 _ (by omega) (by omega)]; omega
  have e4 : IntKind.i64.wrap ((k : Int) - 1) = (k : Int) - 1 := w64 _ (by omega) (by omega)
  have hi : ((k + 1 : Nat) : Int) - 1 = (k : Int) := by omega
  have e0 : (0 : Int) <= (k : Int) := by omega
  have c1 : (0 : Int) <= ((k + p + 2 : Nat) : Int) := by omega
  have c2 : ((k + p + 2 : Nat) : Int) < (u.length : Int) := by omega
  have c3 : (0 : Int) <= ((k + p + 1 : Nat) : Int) := by omega
  have c4 : ((k + p + 1 : Nat) : Int) < (u.length : Int) := by omega
  have c5 : (0 : Int) <= ((p + 1 : Nat) : Int) := by omega
  have c6 : ((p + 1 : Nat) : Int) < (v.length : Int) := by omega
  have c7 : ¬ (((v.getD (p + 1) 0 : Nat) : Int) = 0) := by omega
  have c8 : IntKind.u64.wrap ((v.getD (p + 1) 0 : Nat) : Int) = ((v.getD (p + 1) 0 : Nat) : Int) := w4s (by omega)
  have hB : ((1000000000 : Int)) = ((1000000000 : Nat) : Int) := rfl
  simp only [hi, e0, e1, e2, e3, e4, z1f, Int.toNat_natCast, z6p, c1, c2, c3, c4, c5, c6, c7, c8, if_true, if_false, decide_true]
  rw [hB]
  simp (disch := omega) only [w4s, <- Int.natCast_mul, <- Int.natCast_add, wo1, wy3]
  generalize htp : u.getD (k + p + 2) 0 * 1000000000 + u.getD (k + p + 1) 0 = top at *
  have htl : top < 1000000000 * 1000000000 := by omega
  have hqt : top / v.getD (p + 1) 0 <= top := Nat.div_le_self _ _
  rw [w4s (by omega)]
  have hdm := Nat.div_add_mod top (v.getD (p + 1) 0)
  have hml := Nat.mod_lt top (show v.getD (p + 1) 0 > 0 by omega)
  obtain ⟨q, e, q1, q2, q3⟩ := w5i u v h6 hv (p + 2) k hp.symm (by omega) (by omega) (by omega) (vl v) (vl (u.drop k)) (vl (v.take p)) (vl ((u.drop k).take p)) (1000000000 ^ p) top
   (by rw [show p + 2 - 1 = p + 1 by omega]; exact htop) (by rw [show p + 2 - 1 = p + 1 by omega, show p + 2 - 2 = p by omega]; exact hV) (by rw [show k + (p + 2) - 2 = k + p by omega]; exact hW) hvr hur
   (by rw [show p + 2 - 1 = p + 1 by omega]; exact wu4 hV hW hvr d3 hR) hR m (top / v.getD (p + 1) 0) (top % v.getD (p + 1) 0) (by rw [show p + 2 - 1 = p + 1 by omega, Nat.mul_comm]; exact hdm) (by omega) (by omega)
   (wa1 hV hW hur (z54 h6 (k + p)) (by rw [Nat.succ_mul, Nat.mul_comm]; omega))
  rw [e]
  simp only
  have e5 : ((0 : Nat) : Int) = 0 := rfl
  obtain ⟨d', u1, f, f1, f2, f3, f4, f5, f6⟩ := yq0 v hv q q1 k (by omega) m 0 0 0 u (by omega) (by omega) (by omega) h6 (by omega) (by omega) (by omega)
  have f : z13 m (k : Int) (q : Int) 0 0 0 (zs u) (zs v) = _ := f
  rw [f]
  simp only
  -- the window behind the subtraction
  have t1 : u1.take k = u.take k := take_same f3 fun j hj => f4 j (by omega)
  have t2 : vl (u1.drop (k + p + 3)) = 0 := by rw [w0p f3 fun j hj => f5 j (by omega)]; exact hz
  have s0 := zm6 u k (by omega)
  have s1 := zm6 u1 k (by omega)
  have w1 : vl (u1.drop k) + q * vl v = vl (u.drop k) + 1000000000 ^ (p + 3) * d' := by
   rw [t1] at s1
   rw [s0, s1, List.drop_zero, Nat.add_zero, show k + v.length + 1 = k + (p + 3) by omega, Nat.pow_add, Nat.mul_assoc] at f6
   have := v1h k
   apply Nat.eq_of_mul_eq_mul_left this
   rw [Nat.mul_add, Nat.mul_add]
   simp only [Nat.add_zero] at f6
   omega
  have small : ∀ (x : List Nat), Dg x -> x.length = u.length -> vl (x.drop (k + p + 3)) = 0 -> vl (x.drop k) < 1000000000 ^ (p + 3) := by
   intro x hx hxl h0
   have := zm6 (x.drop k) (p + 3) (by rw [List.length_drop]; omega)
   rw [List.drop_drop, show k + (p + 3) = k + p + 3 by omega, h0, Nat.mul_zero, Nat.add_zero] at this
   rw [this]
   have := yj9 (yf4 (w3k hx k) (p + 3))
   rwa [List.length_take, List.length_drop, Nat.min_eq_left (by omega)] at this
  have w2 := small u1 f2 f3 t2
  -- the next round
  have next : ∀ (q' : Nat) (u2 : List Nat), q' < 1000000000 -> Dg u2 -> u2.length = L -> vl (u2.drop k) < vl v -> vl u2 + 1000000000 ^ k * (q' * vl v) = vl u ->
    ∃ u' out', z5c m ((p + 2 : Nat) : Int) ((k : Int) - 1) (zs u2) (zs v) (zs (out.set k q')) = some (.exit (zs u', zs out', zs v, ())) /\ Dg u' /\ Dg out' /\ u'.length = L /\ out'.length = L - (p + 2) /\ vl u' < vl v /\ vl out' * vl v + vl u' = vl out * vl v + vl u := by
   intro q' u2 hq' g1 g2 g3 g4
   obtain ⟨u', out', g, j1, j2, j3, j4, j5, j6⟩ := w5c v hv p hp htop L hL hpL m k u2 (out.set k q') (by omega) (by omega) (by omega) g2 (by rw [List.length_set]; exact h5) g1 (yf3 h7 hq') g3 (fun j hj => by rw [z5a _ _ _ _ _ (by omega)]; exact h9 j (by omega))
   refine ⟨u', out', g, j1, j2, j3, j4, j5, ?_⟩
   have hs := y9o out k q' (by omega)
   rw [h9 k (by omega), Nat.mul_zero, Nat.add_zero] at hs
   rw [j6, hs, <- g4, Nat.add_mul, Nat.mul_assoc]
   omega
  have c9 : (k : Int) < (out.length : Int) := by omega
  by_cases hd : d' = 0
  ·subst hd
   rw [if_neg (by simp)]
   rw [if_pos c9, yc1 (by omega), zl9]
   refine next q u1 q1 f2 (by omega) ?_ ?_
   ·rw [Nat.succ_mul] at q2; omega
   ·rw [t1] at s1
    rw [s0, s1, show vl (u.drop k) = vl (u1.drop k) + q * vl v by omega, Nat.mul_add]
    omega
  ·obtain rfl : d' = 1 := by omega
   rw [if_pos (by simp)]
   obtain ⟨c', u2, g, g1, g2, g3, g4, g5, g6⟩ := w1j v hv k (by omega) m 0 0 u1 (by omega) (by omega) (by omega) f2 (by omega)
   have g : z1u m (k : Int) 0 0 (zs u1) (zs v) = _ := g
   rw [g]
   simp only
   have hq0 : q ≠ 0 := fun e => by subst e; omega
   obtain ⟨q', rfl⟩ : ∃ q', q = q' + 1 := ⟨q - 1, by omega⟩
   rw [if_pos c9, show ((q' + 1 : Nat) : Int) - 1 = (q' : Int) by omega, w4s (by omega), yc1 (by omega), zl9]
   have t3 : u2.take k = u1.take k := take_same g3 fun j hj => g4 j (by omega)
   have t4 : vl (u2.drop (k + p + 3)) = 0 := by rw [w0p g3 fun j hj => g5 j (by omega)]; exact t2
   have w3 := small u2 g2 (by omega) t4
   have s2 := zm6 u2 k (by omega)
   have w4 : vl (u2.drop k) + 1000000000 ^ (p + 3) * c' = vl (u1.drop k) + vl v := by
    rw [t3] at s2
    rw [s1, s2, List.drop_zero, Nat.add_zero, show k + v.length + 1 = k + (p + 3) by omega, Nat.pow_add, Nat.mul_assoc] at g6
    have := v1h k
    apply Nat.eq_of_mul_eq_mul_left this
    rw [Nat.mul_add, Nat.mul_add]
    simp only [Nat.add_zero] at g6
    omega
   rw [Nat.succ_mul] at q3 w1
   have hc : c' = 1 := by
    rcases Nat.eq_zero_or_pos c' with h | h
    ·subst h; omega
    ·omega
   subst hc
   refine next q' u2 (by omega) g2 (by omega) ?_ ?_
   ·omega
   ·rw [t3, t1] at s2
    rw [s0, s2, show vl (u.drop k) = vl (u2.drop k) + q' * vl v by omega, Nat.mul_add]
    omega
theorem w5k (a : List Nat) (ha : a.length <= 4194304) : ∀ (m : Nat) (u : List Nat), Dg u -> a.length + 2 < m + u.length -> u.length <= a.length + 2 ->
  ∃ u', zd7 m (zs a) (zs u) = some (.exit (zs u', ())) /\ Dg u' /\ vl u' = vl u /\ u.length <= u'.length /\ u'.length <= a.length + 2 /\ (∀ p, u = p ++ [0] -> ∃ p', u' = p' ++ [0])
 | 0, u, h0, h1, h2 => by omega
 | m + 1, u, h0, h1, h2 => by
  simp only [zd7, z1f]
  by_cases hl : u.length <= a.length
  ·rw [if_pos (by simpa using hl), if_pos (by omega)]
   obtain ⟨u', e, k1, k2, k3, k4, k5⟩ := w5k a ha m (u ++ [0]) (zc0.2 ⟨h0, zo9.2 ⟨by decide, y46⟩⟩) (by simp; omega) (by simp; omega)
   refine ⟨u', ?_, k1, by rw [k2, y3g], by simp at k3; omega, k4, fun _ _ => k5 _ rfl⟩
   rw [<- e, <- y32]
   rfl
  ·rw [if_neg (by simpa using hl)]
   exact ⟨u, rfl, h0, rfl, Nat.le_refl _, h2, fun p hp => ⟨p, hp⟩⟩
theorem yf0 {n : Nat} (h : n ≠ 0) : (cn n).getD ((cn n).length - 1) 0 ≠ 0 := by
 rcases y8o (cn n) with e | ⟨p, d, e⟩
 ·exact absurd (w0h.1 e) h
 ·have hd := v07 e
  rw [e]
  simp only [List.length_append, List.length_cons, List.length_nil, Nat.zero_add, Nat.add_sub_cancel]
  rwa [w5m]
theorem wo8 {d : Nat} (h0 : 0 < d) (hd : d < 1000000000) : cn d = [d] := by
 rw [y44 (by omega), Nat.mod_eq_of_lt hd, Nat.div_eq_of_lt hd, z53]
theorem w5d {a b : Nat} (ha : Sz a) (hb : Sz b) (h0 : 0 < b) : zf2 fuel (zs (cn a)) (zs (cn b)) = some (zs (cn (a / b)), zs (cn (a % b))) := by
 unfold zf2
 have ha' := ha
 have hb' := hb
 unfold Sz at ha' hb'
 have hf := zp8
 rw [w56 ha hb, Option.bind_some]
 by_cases hab : a < b
 ·rw [if_pos hab, if_pos (by decide), Nat.div_eq_of_lt hab, Nat.mod_eq_of_lt hab, z53]
  rfl
 rw [if_neg hab]
 rw [if_neg (by split <;> decide)]
 have hbl : 0 < (cn b).length := za1 (by omega)
 simp only [z1f]
 by_cases h1 : (cn b).length = 1
 ·obtain ⟨d, hd⟩ : ∃ d, cn b = [d] := by
   match hc : cn b, h1 with
   | [d], _ => exact ⟨d, rfl⟩
  have hbd : b = d := by rw [<- y7l b, hd]; simp [vl]
  have hd9 := y26 b d (by rw [hd]; simp)
  rw [if_pos (by simp [h1]), if_pos (by omega), z6p, hd]
  have e : ((([d] : List Nat).getD 0 0 : Nat) : Int) = (d : Int) := rfl
  rw [e, w6m (y26 a) (by omega) (by omega) hd9, Option.bind_some, y7l, hbd]
 rw [if_neg (by simp; omega)]
 have e1 : IntKind.i64.wrap (((cn b).length : Int) - 1) = (((cn b).length - 1 : Nat) : Int) := by rw [w64 _ (by omega) (by omega)]; omega
 have htb := yf0 (show b ≠ 0 by omega)
 have hdb := z54 (y26 b) ((cn b).length - 1)
 generalize hbt : (cn b).getD ((cn b).length - 1) 0 = bt at *
 have hB : ((1000000000 : Int)) = ((1000000000 : Nat) : Int) := rfl
 have hO : ((1 : Int)) = ((1 : Nat) : Int) := rfl
 have hby : 1000000000 / (bt + 1) <= 1000000000 := Nat.div_le_self _ _
 have hby1 : 0 < 1000000000 / (bt + 1) := Nat.div_pos (by omega) (by omega)
 have hby2 : 1000000000 / (bt + 1) < 1000000000 := Nat.div_lt_self (by decide) (by omega)
 have eby : IntKind.u32.wrap (IntKind.u64.wrap ((1000000000 : Int).tdiv (IntKind.u64.wrap ((IntKind.u64.wrap ((bt : Nat) : Int)) + 1)))) = ((1000000000 / (bt + 1) : Nat) : Int) := by
  rw [hB, hO]
  simp (disch := omega) only [w4s, <- Int.natCast_add, wo1, yc1]
 simp only [e1, Int.toNat_natCast, z6p, hbt, eby]
 have c1 : (0 : Int) <= (((cn b).length - 1 : Nat) : Int) := by omega
 have c2 : (((cn b).length - 1 : Nat) : Int) < ((cn b).length : Int) := by omega
 have c3 : ¬ (IntKind.u64.wrap ((IntKind.u64.wrap ((bt : Nat) : Int)) + 1) = 0) := by
  rw [hO]
  simp (disch := omega) only [w4s, <- Int.natCast_add]
  omega
 rw [if_pos c1, if_pos c2, if_neg c3]
 generalize 1000000000 / (bt + 1) = by' at *
 have hby' : Sz by' := by unfold Sz; rw [wo8 hby1 hby2]; simp
 rw [ws3, <- wo8 hby1 hby2, y73 ha hby', Option.bind_some]
 have hla : (cn (a * by')).length <= (cn a).length + 1 := by
  rw [zb9, z5m, Nat.mul_comm]
  exact Nat.mul_lt_mul_of_lt_of_le hby2 (Nat.le_of_lt (wj3 a)) (v1h _)
 have hlb : (cn b).length <= (cn (b * by')).length := ye9 (Nat.le_mul_of_pos_right _ hby1)
 have hlba : (cn (b * by')).length <= (cn (a * by')).length := ye9 (Nat.mul_le_mul_right _ (by omega))
 rw [z1f, if_pos (by omega), y73 hb hby', Option.bind_some]
 obtain ⟨u, e, k1, k2, k3, k4, k5⟩ := w5k (cn a) ha' fuel (cn (a * by') ++ [0]) (zc0.2 ⟨y26 _, zo9.2 ⟨by decide, y46⟩⟩) (by omega) (by simp; omega)
 rw [show zs (cn (a * by')) ++ [0] = zs (cn (a * by') ++ [0]) from y32 _ 0, e]
 simp only [z1f]
 simp only [List.length_append, List.length_cons, List.length_nil, Nat.zero_add] at k3
 obtain ⟨v, hv⟩ : ∃ v, v = cn (b * by') := ⟨_, rfl⟩
 have hvv : vl v = b * by' := by rw [hv, y7l]
 have hvd : Dg v := hv ▸ y26 _
 rw [<- hv] at hlb hlba ⊢
 obtain ⟨p, hp⟩ : ∃ p, v.length = p + 2 := ⟨v.length - 2, by omega⟩
 have hvt : 1 <= v.getD (p + 1) 0 := by
  have := yf0 (n := b * by') (by have := Nat.mul_pos h0 hby1; omega)
  rw [<- hv, hp] at this
  exact Nat.pos_of_ne_zero this
 have e2 : IntKind.i64.wrap ((u.length : Int) - (v.length : Int)) = ((u.length - (p + 2) : Nat) : Int) := by rw [w64 _ (by omega) (by omega)]; omega
 have e3 : IntKind.i64.wrap (((u.length - (p + 2) : Nat) : Int) - 1) = ((u.length - (p + 2) : Nat) : Int) - 1 := w64 _ (by omega) (by omega)
 simp only [e2, e3, Int.toNat_natCast]
 rw [if_pos (by omega), if_pos (by omega), if_pos (by omega), w2e, hp]
 have hbig : 1099511627776 <= fuel := hf
 obtain ⟨u2, out, g, j1, j2, j3, j4, j5, j6⟩ := w5c v hvd p hp hvt u.length (by omega) (by omega) fuel (u.length - (p + 2)) u (List.replicate (u.length - (p + 2)) 0) (by omega) (by omega) (by omega) rfl (by simp) k1 (w59 _)
  (by
    obtain ⟨q, rfl⟩ := k5 _ rfl
    simp only [List.length_append, List.length_cons, List.length_nil, Nat.zero_add] at k3 k4 ⊢
    rw [List.drop_append_of_le_length (by omega), y3g]
    have h1 := yj9 (w3k (zc0.1 k1).1 (q.length + 1 - (p + 2)))
    rw [List.length_drop, show q.length - (q.length + 1 - (p + 2)) = p + 1 by omega] at h1
    have h2 := v06 (n := b * by') (by have := Nat.mul_pos h0 hby1; omega)
    rw [<- hv, hp] at h2
    rw [hvv]
    exact Nat.lt_of_lt_of_le h1 h2) (fun j _ => yb8 _ j)
 rw [g]
 simp only
 have k2' : vl u = a * by' := by rw [k2, y3g, y7l]
 rw [w2b, Nat.zero_mul, Nat.zero_add, k2', hvv] at j6
 rw [hvv] at j5
 have hpos : 0 < b * by' := Nat.mul_pos h0 hby1
 have hq : vl out = a / b := by
  rw [<- Nat.mul_div_mul_right a b hby1, <- j6, Nat.mul_comm (vl out), Nat.mul_add_div hpos, Nat.div_eq_of_lt j5, Nat.add_zero]
 have hr : vl u2 = a % b * by' := by
  rw [<- Nat.mul_mod_mul_right, <- j6, Nat.mul_comm (vl out), Nat.mul_add_mod, Nat.mod_eq_of_lt j5]
 rw [yx2 j1 (by omega), Option.bind_some, w6m (y26 _) (by have := (zb9 (vl u2) u2.length).2 (yj9 j1); omega) hby1 hby2, Option.bind_some, yx2 j2 (by omega), Option.bind_some, hq, y7l, hr, Nat.mul_div_cancel _ hby1]
theorem yj7 {a b : Nat} (h : a <= b) (hb : Sz b) : Sz a := Nat.le_trans (ye9 h) hb
theorem w5l : ∀ (m a b : Nat), Sz a -> Sz b -> (∃ j, b < 2 ^ j /\ 2 * j + 1 < m) -> z8f m (zs (cn a)) (zs (cn b)) = some (.exit (zs (cn (Nat.gcd a b)), ()))
 | 0, a, b, ha, hb, ⟨j, h1, h2⟩ => by omega
 | m + 1, a, b, ha, hb, ⟨j, h1, h2⟩ => by
  simp only [z8f, z1f]
  by_cases h0 : b = 0
  ·subst h0
   rw [z53, if_neg (by simp), Nat.gcd_zero_right]
  ·have := za1 h0
   rw [if_pos (by simpa using za1 h0), w5d ha hb (by omega), Option.bind_some]
   have hm := Nat.mod_lt a (show b > 0 by omega)
   have hg : Nat.gcd a b = Nat.gcd b (a % b) := by rw [Nat.gcd_comm a b, Nat.gcd_rec b a, Nat.gcd_comm]
   rw [hg]
   have hz := yj7 (Nat.le_of_lt hm) hb
   match m, h2 with
   | m + 1, h2 =>
   simp only [z8f, z1f]
   by_cases h3 : a % b = 0
   ·rw [h3, z53, if_neg (by simp), Nat.gcd_zero_right]
   ·rw [if_pos (by simpa using za1 h3), w5d hb hz (by omega), Option.bind_some]
    have hg2 : Nat.gcd b (a % b) = Nat.gcd (a % b) (b % (a % b)) := by rw [Nat.gcd_comm b, Nat.gcd_rec (a % b) b, Nat.gcd_comm]
    rw [hg2]
    have hm2 := Nat.mod_lt b (show a % b > 0 by omega)
    have hj : j ≠ 0 := fun e => by subst e; omega
    refine w5l m (a % b) (b % (a % b)) hz (yj7 (Nat.le_of_lt hm2) hz) ⟨j - 1, ?_, by omega⟩
    obtain ⟨i, rfl⟩ : ∃ i, j = i + 1 := ⟨j - 1, by omega⟩
    rw [Nat.pow_succ] at h1
    have : 2 * (b % (a % b)) < b := by
     have h4 := Nat.div_add_mod b (a % b)
     have h5 : 1 <= b / (a % b) := Nat.div_pos (by omega) (by omega)
     have h6 := Nat.mul_le_mul_left (a % b) h5
     omega
    rw [Nat.add_sub_cancel]
    omega
theorem wb2 {a b : Nat} (ha : Sz a) (hb : Sz b) : z6l fuel (zs (cn a)) (zs (cn b)) = some (zs (cn (Nat.gcd a b))) := by
 unfold z6l
 have hf := zp8
 rw [w5l fuel a b ha hb ⟨30 * (cn b).length, ?_, by unfold Sz at hb; omega⟩]
 refine Nat.lt_of_lt_of_le (wj3 b) ?_
 rw [Nat.pow_mul]
 exact Nat.pow_le_pow_left (by decide) _
end Go.Proofs.YtcdcoeofhnfjdaaGreatDoor
namespace Go.Proofs.YtcdcoeofhnfjdaaGreatDoor
open Go Vm
theorem yp0 (l : List Nat) (hb : By l) (hs : l.length <= 4611686018427387904) : ∀ (m i : Nat), i <= l.length -> l.length < m + i ->
  z6s m (zs l) (l.length : Int) (i : Int) = if ∀ c, c ∈ l.drop i -> 48 <= c /\ c <= 57 then some (.exit ()) else some (.ret (5, ()))
 | 0, i, h1, h2 => by omega
 | m + 1, i, h1, h2 => by
  simp only [z6s]
  by_cases hi : i < l.length
  ·have e0 : (0 : Int) <= (i : Int) := by omega
   have e1 : (i : Int) < (l.length : Int) := by omega
   have e4 : IntKind.i64.wrap ((i : Int) + 1) = ((i + 1 : Nat) : Int) := by rw [w64 _ (by omega) (by omega)]; omega
   simp only [z1f, Int.toNat_natCast, z6p, e0, e1, if_true, decide_true, e4]
   have hd : l.drop i = l.getD i 0 :: l.drop (i + 1) := by rw [List.drop_eq_getElem_cons hi, z2u l i 0 hi]
   rw [yp0 l hb hs m (i + 1) (by omega) (by omega), hd]
   by_cases h3 : l.getD i 0 < 48
   ·rw [if_neg (by simp only [decide_eq_false_iff_not]; omega), if_neg (fun h => by have := h _ (List.mem_cons_self ..); omega)]
   ·rw [if_pos (by simp only [decide_eq_false_iff_not]; omega)]
    by_cases h4 : 57 < l.getD i 0
    ·rw [if_pos (by simp only [decide_eq_true_eq]; omega), if_neg (fun h => by have := h _ (List.mem_cons_self ..); omega)]
    ·rw [if_neg (by simp only [decide_eq_true_eq]; omega)]
     by_cases h5 : ∀ c, c ∈ l.drop (i + 1) -> 48 <= c /\ c <= 57
     ·rw [if_pos h5, if_pos (fun c hc => by
        rcases List.mem_cons.1 hc with rfl | hc
        · omega
        · exact h5 c hc)]
     ·rw [if_neg h5, if_neg (fun h => h5 fun c hc => h c (List.mem_cons_of_mem _ hc))]
  ·have e1 : ¬ (i : Int) < (l.length : Int) := by omega
   simp only [e1, decide_false, Bool.false_eq_true, if_false]
   rw [List.drop_of_length_le (by omega), if_pos (fun c hc => by cases hc)]
theorem ye7 (l : List Nat) (hb : By l) (hs : l.length <= 4611686018427387904) : z6k fuel (sb l) =
  if l = [] then some 5 else if l.getD 0 0 = 48 /\ 1 < l.length then some 5 else if ∀ c, c ∈ l -> 48 <= c /\ c <= 57 then (if 2000 < l.length then some 2 else some 0) else some 5 := by
 unfold z6k
 have hf := z7u (n := 2 ^ 100) (by decide)
 rw [wq6, w89 hb w0b, z4a, w6l hb, wg1 hb, z1f]
 by_cases h0 : l = []
 ·rw [if_neg (by simp [h0]), if_pos h0]
 ·have hl : 0 < l.length := List.length_pos_iff.2 h0
  rw [if_pos (by simp [h0]), if_pos (by omega), if_neg h0]
  have hloop := yp0 l hb hs fuel 0 (by omega) (by omega)
  rw [List.drop_zero] at hloop
  have hloop : z6s fuel (zs l) (l.length : Int) 0 = _ := hloop
  rw [hloop]
  have hbig : decide ((l.length : Int) > 2000) = decide (2000 < l.length) := decide_eq_decide.2 (by omega)
  by_cases h1 : l.getD 0 0 = 48
  ·rw [if_pos (by rw [h1]; rfl)]
   by_cases h2 : 1 < l.length
   ·rw [if_pos (by simp only [decide_eq_true_eq]; omega), if_pos ⟨h1, h2⟩]
   ·have hA : ¬ (l.getD 0 0 = 48 /\ 1 < l.length) := fun h => h2 h.2
    rw [if_neg (by simp only [decide_eq_true_eq]; omega)]
    simp only [if_neg hA]
    by_cases h3 : ∀ c, c ∈ l -> 48 <= c /\ c <= 57
    ·simp only [if_pos h3, hbig, decide_eq_true_eq]
    ·simp only [if_neg h3]
  ·have hA : ¬ (l.getD 0 0 = 48 /\ 1 < l.length) := fun h => h1 h.1
   rw [if_neg (fun e => h1 (by have := beq_iff_eq.1 e; omega))]
   simp only [if_neg hA]
   by_cases h3 : ∀ c, c ∈ l -> 48 <= c /\ c <= 57
   ·simp only [if_pos h3, hbig, decide_eq_true_eq]
   ·simp only [if_neg h3]
theorem v0f (n : Nat) : ∀ c, c ∈ dt n -> 48 <= c /\ c <= 57 := fun c hc => by
 obtain ⟨d, hd, rfl⟩ := List.mem_map.1 hc
 have := w6s n d hd
 omega
theorem wj2 (n : Nat) (h : (dig n).length <= 1000000) : z6k fuel (txt n) = some (if (dig n).length <= 2000 then 0 else 2) := by
 have hl : (dt n).length = (dig n).length := by rw [dt, List.length_map]
 have hp := z63 n
 unfold txt
 rw [ye7 _ (ye6 n) (by omega), if_neg (fun e => by rw [e] at hl; simp at hl; omega)]
 rw [if_neg]
 ·rw [if_pos (v0f n), hl]
  by_cases h1 : (dig n).length <= 2000
  ·rw [if_neg (by omega), if_pos h1]
  ·rw [if_pos (by omega), if_neg h1]
 ·rintro ⟨h1, h2⟩
  by_cases h0 : n = 0
  ·subst h0
   have : dt 0 = [48] := by simp [dt, dig]
   rw [this] at h2
   simp at h2
  ·have := w5a h0
   unfold dt at h1
   cases hd : dig n with
   | nil => rw [hd] at hp; simp at hp
   | cons c l =>
    rw [hd] at this h1
    have h1 : 48 + c = 48 := h1
    apply this
    rw [show c = 0 by omega]
    rfl
theorem y39 (s : ByteArray) (hs : s.size <= 4611686018427387904) : (∃ e : Int, e ≠ 0 /\ z6k fuel s = some e /\ ∀ n, s = txt n -> 2000 < (dig n).length) \/ ∃ n, s = txt n /\ (dig n).length <= 2000 /\ z6k fuel s = some 0 := by
 have e := v0y s
 have hb := v04 s
 have hl : s.size = (bt s).length := by rw [<- z4a, e]
 generalize bt s = l at *
 subst e
 rw [ye7 l hb (by omega)]
 have no : ∀ n, sb l = txt n -> l = dt n := fun n h => by
  have := congrArg bt h
  unfold txt at this
  rwa [ye5 hb, ye5 (ye6 n)] at this
 by_cases h0 : l = []
 ·rw [if_pos h0]
  refine .inl ⟨5, by decide, rfl, fun n h => ?_⟩
  have := no n h
  have hp := z63 n
  rw [h0] at this
  have := congrArg List.length this
  simp [dt] at this
  simp [this] at hp
 ·rw [if_neg h0]
  by_cases h1 : l.getD 0 0 = 48 /\ 1 < l.length
  ·rw [if_pos h1]
   refine .inl ⟨5, by decide, rfl, fun n h => ?_⟩
   have h2 := no n h
   subst h2
   by_cases hn : n = 0
   ·subst hn
    have : dt 0 = [48] := by simp [dt, dig]
    rw [this] at h1
    simp at h1
   ·exfalso
    have := w5a hn
    have h1 := h1.1
    unfold dt at h1
    cases hd : dig n with
    | nil => have hp := z63 n; rw [hd] at hp; simp at hp
    | cons c l =>
     rw [hd] at this h1
     have h1 : 48 + c = 48 := h1
     apply this
     rw [show c = 0 by omega]
     rfl
  ·rw [if_neg h1]
   by_cases h3 : ∀ c, c ∈ l -> 48 <= c /\ c <= 57
   ·rw [if_pos h3]
    have ⟨ds, hds⟩ : ∃ ds : List Nat, l = ds.map (48 + ·) := ⟨l.map (· - 48), by
      rw [List.map_map]
      refine ((List.map_congr_left (g := id) fun c hc => ?_).trans (List.map_id l)).symm
      have := h3 c hc
      show 48 + (c - 48) = c
      omega⟩
    subst hds
    have hT : Tn ds := fun c hc => by have := h3 (48 + c) (List.mem_map.2 ⟨c, hc, rfl⟩); omega
    have hd : ds = dig (dv 0 ds) := v0b hT (by
      cases ds with
      | nil => exact absurd rfl h0
      | cons c r =>
        by_cases hc : c = 0
        · subst hc
          cases r with
          | nil => exact .inl rfl
          | cons d r => exact absurd ⟨rfl, by simp⟩ h1
        · exact .inr ⟨by simp, by simp [hc]⟩)
    have htx : sb (ds.map (48 + ·)) = txt (dv 0 ds) := by unfold txt dt; rw [<- hd]
    rw [List.length_map]
    by_cases h4 : 2000 < ds.length
    ·rw [if_pos h4]
     refine .inl ⟨2, by decide, rfl, fun n h => ?_⟩
     have := no n h
     unfold dt at this
     rw [<- w17 this]
     exact h4
    ·rw [if_neg h4]
     exact .inr ⟨dv 0 ds, htx, by rw [<- hd]; omega, rfl⟩
   ·rw [if_neg h3]
    refine .inl ⟨5, by decide, rfl, fun n h => ?_⟩
    have := no n h
    subst this
    exact absurd (v0f n) h3
theorem w1h (l : List Nat) (hl : Tn l) (hs : l.length <= 9) : ∀ (m i d : Nat), i <= l.length -> l.length < m + i -> d < 10 ^ i ->
  za8 m (d : Int) (zs (l.map (48 + ·))) (l.length : Int) (i : Int) = some (.exit (((dv d (l.drop i) : Nat) : Int), ()))
 | 0, i, d, h1, h2, h3 => by omega
 | m + 1, i, d, h1, h2, h3 => by
  simp only [za8]
  by_cases hi : i < l.length
  ·have e0 : (0 : Int) <= (i : Int) := by omega
   have e1 : (i : Int) < (l.length : Int) := by omega
   have e4 : IntKind.i64.wrap ((i : Int) + 1) = ((i + 1 : Nat) : Int) := by rw [w64 _ (by omega) (by omega)]; omega
   have hc := hl (l.getD i 0) (by rw [z2u l i 0 hi]; exact List.getElem_mem hi)
   have hg : (l.map (48 + ·)).getD i 0 = 48 + l.getD i 0 := by
    rw [z2u _ i 0 (by simpa using hi), z2u l i 0 hi, List.getElem_map]
   have hd : d < 100000000 := Nat.lt_of_lt_of_le h3 (Nat.le_trans (Nat.pow_le_pow_right (by decide) (show i <= 8 by omega)) (by decide))
   simp only [List.length_map, Int.toNat_natCast, z6p, hg, e0, e1, if_true, decide_true, e4]
   rw [show ((48 + l.getD i 0 : Nat) : Int) - 48 = ((l.getD i 0 : Nat) : Int) by omega, u8n (by omega), yc1 (by omega), show ((d : Int) * 10) = ((d * 10 : Nat) : Int) by omega, yc1 (by omega), <- Int.natCast_add, yc1 (by omega)]
   rw [w1h l hl hs m (i + 1) (d * 10 + l.getD i 0) (by omega) (by omega) (by rw [Nat.pow_succ]; omega)]
   rw [List.drop_eq_getElem_cons hi, dv, z2u l i 0 hi]
  ·have e1 : ¬ (i : Int) < (l.length : Int) := by omega
   simp only [e1, decide_false, Bool.false_eq_true, if_false]
   rw [List.drop_of_length_le (by omega)]
   rfl
theorem w1p (l : List Nat) (hl : Tn l) (hs : l.length <= 4194304) : ∀ (m : Nat) (z : Int) (out : List Nat), z <= (l.length : Int) -> -9223372036854775800 <= z -> z.toNat + 100 < m -> Dg out -> out.length + z.toNat <= 4194304 ->
  ∃ out', za7 m (sb (l.map (48 + ·))) z (zs out) = some (.exit (zs out', ())) /\ Dg out' /\ out'.length <= 4194304 /\ vl out' = vl out + 1000000000 ^ out.length * dv 0 (l.take z.toNat)
 | 0, z, out, h1, h1', h2, h3, h4 => by omega
 | m + 1, z, out, h1, h1', h2, h3, h4 => by
  simp only [za7]
  by_cases hz : z > 0
  ·obtain ⟨e, rfl⟩ : ∃ e : Nat, z = e := ⟨z.toNat, by omega⟩
   have hw : IntKind.i64.wrap ((e : Int) - 9) = (e : Int) - 9 := w64 _ (by omega) (by omega)
   have hmx : (if (e : Int) - 9 > 0 then (e : Int) - 9 else 0) = ((e - 9 : Nat) : Int) := by split <;> omega
   have hB : By (l.map (48 + ·)) := w96 hl
   have e1 : decide ((e : Int) > 0) = true := by simpa using hz
   have e2 : (0 : Int) <= (e : Int) := by omega
   have e3 : (e : Int) <= ((sb (l.map (48 + ·))).size : Int) := by rw [z4a, List.length_map]; exact h1
   have e4 : (0 : Int) <= ((e - 9 : Nat) : Int) := by omega
   have e5 : ((e - 9 : Nat) : Int) <= (e : Int) := by omega
   have e6 : (out.length + 1) * 4 <= 140737488355328 := by omega
   have hx : ((l.map (48 + ·)).take e).drop (e - 9) = ((l.take e).drop (e - 9)).map (48 + ·) := by rw [List.map_drop, List.map_take]
   have hT : Tn ((l.take e).drop (e - 9)) := fun c hc => hl c (List.mem_of_mem_take (List.mem_of_mem_drop hc))
   have hlen : ((l.take e).drop (e - 9)).length <= 9 := by rw [List.length_drop, List.length_take]; omega
   have hp := w1h _ hT hlen m 0 0 (by omega) (by omega) (by decide)
   have hp : za8 m 0 _ _ 0 = _ := hp
   rw [List.drop_zero] at hp
   simp only [e1, hw, hmx, e2, e3, e4, e5, if_true, Int.toNat_natCast, zg0, hx, w6l (w96 hT), List.length_map]
   rw [hp]
   simp only
   have hlt := v0h hT
   have hlt9 : dv 0 ((l.take e).drop (e - 9)) < 1000000000 := Nat.lt_of_lt_of_le hlt (Nat.le_trans (Nat.pow_le_pow_right (by decide) hlen) (by decide))
   rw [if_pos e6, y32]
   obtain ⟨out', g, k1, k2, k3⟩ := w1p l hl hs m ((e : Int) - 9) (out ++ [dv 0 ((l.take e).drop (e - 9))]) (by omega) (by omega) (by omega) (zc0.2 ⟨h3, zo9.2 ⟨hlt9, y46⟩⟩) (by simp; omega)
   refine ⟨out', g, k1, k2, ?_⟩
   rw [k3, zd9, List.length_append, List.length_singleton, z5m, show ((e : Int) - 9).toNat = e - 9 by omega]
   have hsp := wk3 (l.take e) (e - 9) (by rw [List.length_take]; omega)
   rw [List.take_take, Nat.min_eq_left (by omega), List.length_take, Nat.min_eq_left (show e <= l.length by omega)] at hsp
   simp only [vl, Nat.mul_zero, Nat.add_zero]
   rw [hsp]
   by_cases h9 : 9 <= e
   ·rw [show e - (e - 9) = 9 by omega, show (10 : Nat) ^ 9 = 1000000000 by decide]
    grind
   ·rw [show e - 9 = 0 by omega, List.take_zero, dv]
    simp
  ·have e1 : decide (z > 0) = false := by simpa using hz
   simp only [e1, Bool.false_eq_true, if_false]
   refine ⟨out, rfl, h3, by omega, ?_⟩
   rw [show z.toNat = 0 by omega, List.take_zero]
   simp [dv]
theorem wx3 (n : Nat) (h : (dig n).length <= 4194304) : z3r fuel (txt n) = some (zs (cn n)) := by
 unfold z3r
 have hf := zp8
 obtain ⟨out', g, k1, k2, k3⟩ := w1p (dig n) (w6s n) h fuel ((dig n).length : Int) [] (by omega) (by omega) (by omega) y46 (by simp; omega)
 have g : za7 fuel (txt n) ((dig n).length : Int) [] = _ := g
 rw [w6t, g]
 simp only [z1f]
 obtain ⟨j, e2, k5⟩ := y7h fuel out'.length out' k1 (by omega) (by omega) (by omega)
 rw [e2]
 show some ((zs out').take j) = _
 rw [List.take_length] at k5
 rw [yk4, k5, k3]
 simp only [vl, List.length_nil, Nat.pow_zero, Nat.zero_add, Nat.one_mul, Int.toNat_natCast, List.take_length, w9v]
theorem yp2 : ∀ (m j d : Nat) (part : List Nat), j <= 9 -> j < m -> part.length = 9 -> d < 4294967296 ->
  z5k m (d : Int) ((j : Int) - 1) (zs part) = some (.exit (zs ((pd j d).map (48 + ·) ++ part.drop j), ()))
 | 0, j, d, part, h1, h2, h3, h4 => by omega
 | m + 1, 0, d, part, h1, h2, h3, h4 => by
  simp only [z5k]
  simp [pd]
 | m + 1, j + 1, d, part, h1, h2, h3, h4 => by
  simp only [z5k]
  have hi : ((j + 1 : Nat) : Int) - 1 = (j : Int) := by omega
  have e0 : (0 : Int) <= (j : Int) := by omega
  have e1 : (j : Int) < 9 := by omega
  have hw : IntKind.i64.wrap ((j : Int) - 1) = (j : Int) - 1 := w64 _ (by omega) (by omega)
  have hT : (10 : Int) = ((10 : Nat) : Int) := rfl
  have hF : (48 : Int) = ((48 : Nat) : Int) := rfl
  simp only [hi, e0, e1, hw, decide_true, if_true, Int.toNat_natCast]
  rw [hT, hF]
  simp (disch := omega) only [wo1, wy3, <- Int.natCast_add, yc1, u8n]
  rw [zl9, yp2 m j (d / 10) (part.set j (48 + d % 10)) (by omega) (by omega) (by rw [List.length_set]; exact h3) (by omega)]
  have : (part.set j (48 + d % 10)).drop j = (48 + d % 10) :: part.drop (j + 1) := by
   rw [List.drop_eq_getElem_cons (by rw [List.length_set]; omega), List.getElem_set_self, List.drop_set_of_lt (by omega)]
  rw [this, pd, List.map_append, List.append_assoc]
  rfl
theorem w26 (l : List Nat) (hl : Dg l) (hs : l.length <= 8388608) : ∀ (m i : Nat) (out : List Nat), i <= l.length -> i + 100 < m -> out.length + 9 * i <= 100000000 ->
  z68 m (zs l) ((i : Int) - 1) (zs out) = some (.exit (zs (out ++ (bg l i).map (48 + ·)), ()))
 | 0, i, out, h1, h2, h3 => by omega
 | m + 1, 0, out, h1, h2, h3 => by
  simp only [z68]
  simp [bg]
 | m + 1, i + 1, out, h1, h2, h3 => by
  simp only [z68]
  have hi : ((i + 1 : Nat) : Int) - 1 = (i : Int) := by omega
  have e0 : (0 : Int) <= (i : Int) := by omega
  have e1 : (i : Int) < (l.length : Int) := by omega
  have hw : IntKind.i64.wrap ((i : Int) - 1) = (i : Int) - 1 := w64 _ (by omega) (by omega)
  have dl := z54 hl i
  have hd := yp2 m 9 (l.getD i 0) (List.replicate 9 0) (by omega) (by omega) (by simp) (by omega)
  have hd : z5k m ((l.getD i 0 : Nat) : Int) 8 (zs (List.replicate 9 0)) = _ := hd
  have hlen : (zs ((pd 9 (l.getD i 0)).map (48 + ·) ++ (List.replicate 9 0).drop 9)).take 9 = zs ((pd 9 (l.getD i 0)).map (48 + ·)) := by
   rw [yk4, List.take_append_of_le_length (by rw [List.length_map, y00]; omega), List.take_of_length_le (by rw [List.length_map, y00]; omega)]
  simp only [hi, e0, e1, hw, z1f, decide_true, if_true, Int.toNat_natCast, z6p]
  rw [w2e, hd]
  simp only [hlen, List.drop_zero, List.length_map, y00]
  rw [if_pos (by omega), show zs out ++ zs ((pd 9 (l.getD i 0)).map (48 + ·)) = zs (out ++ (pd 9 (l.getD i 0)).map (48 + ·)) by rw [zs, zs, zs, <- List.map_append],
    w26 l hl hs m i (out ++ (pd 9 (l.getD i 0)).map (48 + ·)) (by omega) (by omega) (by rw [List.length_append, List.length_map, y00]; omega), bg, List.map_append, List.append_assoc]
theorem w10 : ∀ (m : Nat) (l : List Nat), Tn l -> l.length < m -> l.length <= 100000000 -> z33 m (sb (l.map (48 + ·))) 48 = some (.exit (sb ((l.dropWhile (· == 0)).map (48 + ·)), ()))
 | 0, l, h, h1, h2 => by omega
 | m + 1, [], h, h1, h2 => by
  simp only [z33]
  rfl
 | m + 1, c :: l, h, h1, h2 => by
  simp only [z33]
  have hB : By ((c :: l).map (48 + ·)) := w96 h
  have hg : (((c :: l).map (48 + ·)).getD 0 0) = 48 + c := rfl
  rw [z4a, wg1 hB, hg, if_pos (by simp only [List.length_map, List.length_cons, decide_eq_true_eq]; omega), if_pos (by simp only [List.length_map, List.length_cons]; omega)]
  by_cases hc : c = 0
  ·subst hc
   have hx : (sb (((0 : Nat) :: l).map (48 + ·))).extract 1 (List.length ((0 :: l).map (48 + ·))) = sb (l.map (48 + ·)) := by
    rw [zg0, List.take_length]; rfl
   rw [if_pos (by rfl), if_pos (by simp only [List.length_map, List.length_cons]; omega), hx, w10 m l (fun c hc => h c (List.mem_cons_of_mem _ hc)) (by simpa using h1) (by simp at h2; omega), List.dropWhile_cons_of_pos (by rfl)]
  ·rw [if_neg (by intro e; apply hc; simp at e; omega), List.dropWhile_cons_of_neg (by simpa using hc)]
theorem ww0 (l : List Nat) (h : Tn l) (hs : l.length <= 100000000) : z7i fuel (sb (l.map (48 + ·))) (⟨#[48]⟩ : ByteArray) = some (sb ((l.dropWhile (· == 0)).map (48 + ·))) := by
 unfold z7i
 have hf := zp8
 have h48 : (⟨#[48]⟩ : ByteArray) = sb [48] := rfl
 have hB : By (l.map (48 + ·)) := w96 h
 have hB48 : By [48] := fun c hc => by rw [List.mem_singleton] at hc; omega
 rw [h48, wq6, w89 hB w0b]
 by_cases h0 : l = []
 ·subst h0
  rw [if_neg (by simp)]
  rfl
 ·have s1 : (((sb [48]).size : Nat) : Int) = 1 := rfl
  have e : (((sb [48]).data.getD 0 0).toNat : Int) = 48 := rfl
  rw [if_pos (by simp [h0]), w89 hB48 w0b, if_neg (by simp)]
  simp only [s1, e]
  rw [if_pos (by decide), if_pos (by decide), if_pos (by decide), if_pos (by decide)]
  unfold z7c
  rw [w10 fuel l h (by omega) hs]
  rfl
theorem yx1 (n : Nat) (h : (cn n).length <= 8388608) : z7q fuel (zs (cn n)) = some (txt n) := by
 unfold z7q
 have hf := zp8
 simp only [z1f]
 by_cases h0 : n = 0
 ·subst h0
  rw [z53, if_pos (by rfl)]
  congr 1
 ·have hl := za1 h0
  rw [if_neg (fun e => by have := beq_iff_eq.1 e; omega)]
  have hw : IntKind.i64.wrap (9 * ((cn n).length : Int)) = ((9 * (cn n).length : Nat) : Int) := by rw [w64 _ (by omega) (by omega)]; omega
  rw [hw, if_pos (by omega), if_pos (by omega), w64 _ (by omega) (by omega)]
  have := w26 (cn n) (y26 n) h fuel (cn n).length [] (by omega) (by omega) (by simp; omega)
  have : z68 fuel (zs (cn n)) (((cn n).length : Int) - 1) (List.replicate 0 0) = _ := this
  rw [this]
  simp only [List.nil_append]
  rw [v29, ww0 _ (wy4 _ _) (by rw [ye4]; omega), Option.bind_some, v0e (wy4 _ _), v0g (y26 n) _ (Nat.le_refl _), List.take_length, y7l]
  unfold txt dt dig
  rw [if_neg h0]
end Go.Proofs.YtcdcoeofhnfjdaaGreatDoor
namespace Go.Proofs.YtcdcoeofhnfjdaaGreatDoor
open Go Vm
def Ok (n : Nat) : Prop := (dig n).length <= 2000
instance (n : Nat) : Decidable (Ok n) := inferInstanceAs (Decidable ((dig n).length <= 2000))
theorem wq1 {n k : Nat} (h : (dig n).length <= 9 * k) (hk : k <= 4194304) : Sz n := Nat.le_trans (w9f h) hk
theorem we4 {n : Nat} (h : Ok n) : Sz n := wq1 (k := 223) (by unfold Ok at h; omega) (by decide)
theorem wm8 {n k : Nat} (h : n < 10 ^ k) (h1 : 1 <= k) (hk : k <= 2000) : Ok n := Nat.le_trans ((z43 n k h1).2 h) hk
theorem w0e {n : Nat} (h : Ok n) : z6k fuel (txt n) = some 0 := by
 unfold Ok at h
 rw [wj2 n (by omega), if_pos h]
theorem y3c {n : Nat} (h : Ok n) : z3r fuel (txt n) = some (zs (cn n)) := wx3 n (by unfold Ok at h; omega)
theorem ne0 {e : Int} (h : e ≠ 0) : (e != 0) = true := by simpa using h
theorem sz8 {n : Nat} (h : Sz n) : (cn n).length <= 8388608 := by unfold Sz at h; omega
theorem y3f : (⟨#[48]⟩ : ByteArray) = txt 0 := by
 have : dt 0 = [48] := by simp [dt, dig]
 unfold txt
 rw [this]
 rfl
theorem zi7 {n k : Nat} (h : n < 10 ^ k) (hk : k <= 37000001) : Sz n := by
 have h1 : n < 10 ^ (k + 1) := Nat.lt_of_lt_of_le h (Nat.pow_le_pow_right (by decide) (by omega))
 have h2 := (z43 n (k + 1) (by omega)).2 h1
 exact wq1 (k := 4194304) (by omega) (Nat.le_refl _)
theorem we3 : ∀ (m n : Nat) (out : List Nat), n < 9223372036854775808 -> (cn n).length < m -> out.length + (cn n).length <= 10000000 ->
  zn0 m (n : Int) (zs out) = some (.exit (zs (out ++ cn n), ()))
 | 0, n, out, h1, h2, h3 => by omega
 | m + 1, n, out, h1, h2, h3 => by
  simp only [zn0]
  by_cases h0 : n = 0
  ·subst h0
   rw [if_neg (by decide), z53, List.append_nil]
  ·rw [y44 h0, List.length_cons] at h2 h3
   rw [if_pos (by simp; omega), z1f, if_pos (by omega), w25, w27, v2p (by omega), yc1 (by omega), y32, we3 m (n / 1000000000) (out ++ [n % 1000000000]) (by omega) (by omega) (by simp; omega), y44 h0, List.append_assoc]
   rfl
theorem v1x {n : Nat} (h : n < 9223372036854775808) : z69 fuel (n : Int) = some (zs (cn n)) := by
 unfold z69
 have hf := zp8
 have hl : (cn n).length <= 19 := wj4 (k := 19) (Nat.lt_of_lt_of_le h (by decide))
 have := we3 fuel n [] h (by omega) (by simp; omega)
 have : zn0 fuel (n : Int) [] = _ := this
 rw [this]
 rfl
theorem of_one : z69 fuel 1 = some (zs (cn 1)) := v1x (n := 1) (by decide)
end Go.Proofs.YtcdcoeofhnfjdaaGreatDoor
namespace Go.Proofs.YtcdcoeofhnfjdaaGreatDoor
open Go Vm
abbrev Qd := Bool × ((List Int) × (List Int))
theorem wr0 {r : Rat} {q : Qd} (h : QR r q) : ((q.2.1.length : Int) == 0) = decide (r = 0) := by
 rw [h.2.1, z1f, Bool.eq_iff_iff, beq_iff_eq, decide_eq_true_eq, <- Rat.num_eq_zero]
 constructor
 ·intro e
  have : (cn r.num.natAbs).length = 0 := by omega
  have := w3d.1 this
  omega
 ·intro e
  rw [e]
  show (((cn 0).length : Nat) : Int) = 0
  rw [z53]; rfl
theorem y2v {r : Rat} {q : Qd} (h : QR r q) (h0 : r = 0) : ((q.2.1.length : Int) == 0) = true := by rw [wr0 h]; simpa using h0
theorem y0v {r : Rat} {q : Qd} (h : QR r q) (h0 : r ≠ 0) : ((q.2.1.length : Int) == 0) = false := by rw [wr0 h]; simpa using h0
theorem zv9 {r : Rat} {q : Qd} (h : QR r q) : z37 fuel q = some (zs (cn r.den)) := by
 unfold z37
 rcases h.2.2 with e | ⟨h0, e⟩
 ·have := za1 r.den_nz
  rw [if_neg (fun x => by have := beq_iff_eq.1 x; rw [e, z1f] at this; omega), e]
 ·subst h0
  rw [if_pos (by rw [e]; rfl), of_one, Option.bind_some]
  rfl
theorem wo3 {r : Rat} {q : Qd} (h : QR r q) (h0 : r ≠ 0) : q.2.2 = zs (cn r.den) := h.2.2.elim id fun x => absurd x.1 h0
theorem w16 (neg : Bool) {p d : Nat} (hp : Sz p) (hd : Sz d) (h0 : 0 < d) : ∃ q, zi0 fuel neg (zs (cn p)) (zs (cn d)) = some q /\ QR (mkRat (sgn neg p) d) q := by
 unfold zi0
 by_cases h : p = 0
 ·subst h
  refine ⟨(false, [], []), ?_, ?_⟩
  ·rw [z53, if_pos (by rfl)]
  ·rw [wn4, yi2]; exact zw8
 ·have hg : 0 < Nat.gcd p d := Nat.gcd_pos_of_pos_right _ h0
  have hgd : Nat.gcd p d <= d := Nat.le_of_dvd h0 (Nat.gcd_dvd_right p d)
  have hs1 : Sz 1 := yj7 h0 hd
  have hpl := za1 h
  rw [if_neg (fun x => by have := beq_iff_eq.1 x; rw [z1f] at this; omega), wb2 hp hd, Option.bind_some, of_one, Option.bind_some, w56 (yj7 hgd hd) hs1, Option.bind_some]
  have hq := v0v neg h (show d ≠ 0 by omega)
  by_cases h1 : 1 < Nat.gcd p d
  ·rw [if_neg (show ¬ Nat.gcd p d < 1 by omega), if_pos h1, if_pos (by decide), w5d hp (yj7 hgd hd) hg, Option.bind_some, w5d hd (yj7 hgd hd) hg, Option.bind_some]
   exact ⟨_, rfl, hq⟩
  ·have hg1 : Nat.gcd p d = 1 := by omega
   rw [hg1, if_neg (by decide)]
   rw [hg1, Nat.div_one, Nat.div_one] at hq
   exact ⟨_, rfl, hq⟩
theorem wx7 {a : Bool} {p q : Nat} : sgn a (p + q) = sgn a p + sgn a q := by cases a <;> simp [sgn]; omega
theorem wg4 {a b : Bool} {p q : Nat} (hab : (a == b) = false) (h : q <= p) : sgn a (p - q) = sgn a p + sgn b q := by
 cases a <;> cases b <;> simp [sgn] at hab ⊢ <;> omega
theorem w4o (a : Bool) (p q : Nat) : sgn a (p * q) = sgn a p * (q : Int) := by cases a <;> simp [sgn, Int.neg_mul]
theorem yw0 {r s : Rat} {x y : Qd} {k l : Nat} (hx : QR r x) (hy : QR s y) (hr : Dr k r) (hs : Dr l s) (hk : k + l <= 37000000) : ∃ z, z5g fuel x y = some z /\ QR (r + s) z := by
 unfold z5g
 by_cases h1 : r = 0
 ·rw [if_pos (y2v hx h1)]
  refine ⟨y, rfl, ?_⟩
  rw [h1, Rat.zero_add]; exact hy
 rw [if_neg (by rw [y0v hx h1]; simp)]
 by_cases h2 : s = 0
 ·rw [if_pos (y2v hy h2)]
  refine ⟨x, rfl, ?_⟩
  rw [h2, Rat.add_zero]; exact hx
 rw [if_neg (by rw [y0v hy h2]; simp)]
 have b1 := y1f hr.1 hs.2
 have b2 := y1f hs.1 hr.2
 have b3 := y1f hr.2 hs.2
 have b4 : r.num.natAbs * s.den + s.num.natAbs * r.den < 10 ^ (k + l + 1) := wq2 b1 (by rw [Nat.add_comm k l]; exact b2)
 have z1 : Sz (r.num.natAbs * s.den) := zi7 b1 (by omega)
 have z2 : Sz (s.num.natAbs * r.den) := zi7 b2 (by omega)
 have z3 : Sz (r.den * s.den) := zi7 b3 (by omega)
 have z4 : Sz (r.num.natAbs * s.den + s.num.natAbs * r.den) := zi7 b4 (by omega)
 have hd : 0 < r.den * s.den := Nat.mul_pos (Nat.pos_of_ne_zero r.den_nz) (Nat.pos_of_ne_zero s.den_nz)
 have hval : r + s = mkRat (sgn x.1 (r.num.natAbs * s.den) + sgn y.1 (s.num.natAbs * r.den)) (r.den * s.den) := by
  rw [Rat.add_def', w4o, w4o, hx.1, hy.1, y8l, y8l]
 rw [zv9 hy, Option.bind_some, hx.2.1, y73 (zi7 hr.1 (by omega)) (zi7 hs.2 (by omega)), Option.bind_some, zv9 hx, Option.bind_some, hy.2.1, y73 (zi7 hs.1 (by omega)) (zi7 hr.2 (by omega)), Option.bind_some, Option.bind_some, Option.bind_some, y73 (zi7 hr.2 (by omega)) (zi7 hs.2 (by omega)), Option.bind_some]
 by_cases hab : (x.1 == y.1) = true
 ·rw [if_pos hab, v01 z1 z2, Option.bind_some]
  obtain ⟨z, e, hz⟩ := w16 x.1 z4 z3 hd
  rw [e, Option.bind_some]
  refine ⟨z, rfl, ?_⟩
  rw [hval, <- beq_iff_eq.1 hab, <- wx7]; exact hz
 ·have hab' : (x.1 == y.1) = false := by simpa using hab
  rw [if_neg hab, w56 z1 z2, Option.bind_some]
  by_cases hlt : r.num.natAbs * s.den < s.num.natAbs * r.den
  ·rw [if_pos hlt, if_neg (by decide), wr7 z2 (by omega), Option.bind_some]
   obtain ⟨z, e, hz⟩ := w16 y.1 (yj7 (Nat.sub_le _ (r.num.natAbs * s.den)) z2) z3 hd
   rw [e, Option.bind_some]
   refine ⟨z, rfl, ?_⟩
   rw [hval, Int.add_comm, <- wg4 (by cases h : x.1 <;> cases h' : y.1 <;> simp [h, h'] at hab' ⊢) (by omega)]; exact hz
  ·rw [if_neg hlt, if_pos (by split <;> decide), wr7 z1 (by omega), Option.bind_some]
   obtain ⟨z, e, hz⟩ := w16 x.1 (yj7 (Nat.sub_le _ (s.num.natAbs * r.den)) z1) z3 hd
   rw [e, Option.bind_some]
   refine ⟨z, rfl, ?_⟩
   rw [hval, <- wg4 hab' (by omega)]; exact hz
theorem yw2 {r : Rat} {x : Qd} (hx : QR r x) : ∃ z, z9l fuel x = some z /\ QR (-r) z := by
 unfold z9l
 by_cases h1 : r = 0
 ·rw [if_pos (y2v hx h1)]
  refine ⟨x, rfl, ?_⟩
  rw [h1] at hx ⊢
  exact hx
 ·rw [if_neg (by rw [y0v hx h1]; simp)]
  refine ⟨_, rfl, ?_, ?_, ?_⟩
  ·show (!x.1) = _
   have hn : r.num ≠ 0 := fun e => h1 (Rat.num_eq_zero.1 e)
   rw [hx.1, Rat.neg_num]
   by_cases h : r.num < 0
   ·rw [show decide (r.num < 0) = true by simpa using h, show decide (-r.num < 0) = false by simp; omega]; rfl
   ·rw [show decide (r.num < 0) = false by simpa using h, show decide (-r.num < 0) = true by simp; omega]; rfl
  ·rw [Rat.neg_num, Int.natAbs_neg]; exact hx.2.1
  ·have e := wo3 hx h1
   rw [Rat.neg_den]; exact .inl e
theorem y2w {r s : Rat} {x y : Qd} {k l : Nat} (hx : QR r x) (hy : QR s y) (hr : Dr k r) (hs : Dr l s) (hk : k + l <= 37000000) : ∃ z, z47 fuel x y = some z /\ QR (r - s) z := by
 unfold z47
 obtain ⟨z, e, hz⟩ := yw2 hy
 rw [e, Option.bind_some]
 obtain ⟨u, e', hu⟩ := yw0 hx hz hr (y9d hs) hk
 rw [e', Option.bind_some]
 exact ⟨u, rfl, by rw [Rat.sub_eq_add_neg]; exact hu⟩
theorem z8m {r : Rat} {x : Qd} (hx : QR r x) : z30 fuel x = some r.num.sign := by
 unfold z30
 by_cases h1 : r = 0
 ·rw [if_pos (y2v hx h1), h1]; rfl
 ·have hn : r.num ≠ 0 := fun e => h1 (Rat.num_eq_zero.1 e)
  rw [if_neg (by rw [y0v hx h1]; simp), hx.1]
  by_cases h : r.num < 0
  ·rw [if_pos (by simpa using h), Int.sign_eq_neg_one_of_neg h]
  ·rw [if_neg (by simpa using h), Int.sign_eq_one_of_pos (by omega)]
theorem yw1 {r s : Rat} {x y : Qd} {k l : Nat} (hx : QR r x) (hy : QR s y) (hr : Dr k r) (hs : Dr l s) (hk : k + l <= 37000000) : z44 fuel x y = some (r - s).num.sign := by
 unfold z44
 obtain ⟨z, e, hz⟩ := y2w hx hy hr hs hk
 rw [e, Option.bind_some, z8m hz, Option.bind_some]
theorem y5m {r s : Rat} {x y : Qd} {k l : Nat} (hx : QR r x) (hy : QR s y) (hr : Dr k r) (hs : Dr l s) (hk : k + l <= 37000000) : ∃ z, z31 fuel x y = some z /\ QR (r * s) z := by
 unfold z31
 by_cases h1 : r = 0
 ·rw [if_neg (by rw [y2v hx h1]; simp)]
  refine ⟨_, rfl, ?_⟩
  rw [h1, Rat.zero_mul]; exact zw8
 rw [if_pos (y0v hx h1)]
 by_cases h2 : s = 0
 ·rw [if_pos (y2v hy h2)]
  refine ⟨_, rfl, ?_⟩
  rw [h2, Rat.mul_zero]; exact zw8
 rw [if_neg (by rw [y0v hy h2]; simp)]
 have z1 := zi7 (y1f hr.1 hs.1) (by omega)
 have z2 := zi7 (y1f hr.2 hs.2) (by omega)
 have hd : 0 < r.den * s.den := Nat.mul_pos (Nat.pos_of_ne_zero r.den_nz) (Nat.pos_of_ne_zero s.den_nz)
 obtain ⟨z, e, hz⟩ := w16 (x.1 != y.1) z1 z2 hd
 have hval : r * s = mkRat (sgn (x.1 != y.1) (r.num.natAbs * s.num.natAbs)) (r.den * s.den) := by
  rw [Rat.mul_def', wg3, hx.1, hy.1, y8l, y8l]
 rw [hx.2.1, hy.2.1, y73 (zi7 hr.1 (by omega)) (zi7 hs.1 (by omega)), Option.bind_some, zv9 hx, Option.bind_some, zv9 hy, Option.bind_some, y73 (zi7 hr.2 (by omega)) (zi7 hs.2 (by omega)), Option.bind_some]
 have hb : (!(x.1 == y.1)) = (x.1 != y.1) := rfl
 rw [hb, e, Option.bind_some]
 exact ⟨z, rfl, by rw [hval]; exact hz⟩
theorem wt5 {r s : Rat} (hs : s ≠ 0) : r / s = mkRat (sgn (decide (r.num < 0) != decide (s.num < 0)) (r.num.natAbs * s.den)) (r.den * s.num.natAbs) := by
 have hn : s.num ≠ 0 := fun e => hs (Rat.num_eq_zero.1 e)
 rw [Rat.div_def, <- Rat.mkRat_self s⁻¹, Rat.num_inv, Rat.den_inv, if_neg hn]
 conv => lhs; rw [<- Rat.mkRat_self r]
 rw [Rat.mkRat_mul_mkRat, w4o]
 congr 1
 rw [<- Int.mul_assoc]
 congr 1
 conv => lhs; rw [<- y8l r]
 have : s.num.sign = sgn (decide (s.num < 0)) 1 := by
  by_cases h : s.num < 0
  ·rw [show decide (s.num < 0) = true by simpa using h, Int.sign_eq_neg_one_of_neg h]; rfl
  ·rw [show decide (s.num < 0) = false by simpa using h, Int.sign_eq_one_of_pos (by omega)]; rfl
 rw [this, <- wg3, Nat.mul_one]
theorem yi9 {r s : Rat} {x y : Qd} {k l : Nat} (hx : QR r x) (hy : QR s y) (hr : Dr k r) (hs : Dr l s) (hk : k + l <= 37000000) (h2 : s ≠ 0) : ∃ z, z5h fuel x y = some z /\ QR (r / s) z := by
 unfold z5h
 by_cases h1 : r = 0
 ·rw [if_neg (by rw [y2v hx h1]; simp)]
  refine ⟨_, rfl, ?_⟩
  rw [h1, Rat.div_def, Rat.zero_mul]; exact zw8
 rw [if_pos (y0v hx h1), if_neg (by rw [y0v hy h2]; simp)]
 have hn : s.num ≠ 0 := fun e => h2 (Rat.num_eq_zero.1 e)
 have z1 := zi7 (y1f hr.1 hs.2) (by omega)
 have z2 := zi7 (y1f hr.2 hs.1) (by omega)
 have hd : 0 < r.den * s.num.natAbs := Nat.mul_pos (Nat.pos_of_ne_zero r.den_nz) (by omega)
 obtain ⟨z, e, hz⟩ := w16 (x.1 != y.1) z1 z2 hd
 rw [zv9 hy, Option.bind_some, hx.2.1, y73 (zi7 hr.1 (by omega)) (zi7 hs.2 (by omega)), Option.bind_some, zv9 hx, Option.bind_some, hy.2.1, y73 (zi7 hr.2 (by omega)) (zi7 hs.1 (by omega)), Option.bind_some]
 have hb : (!(x.1 == y.1)) = (x.1 != y.1) := rfl
 rw [hb, e, Option.bind_some]
 refine ⟨z, rfl, ?_⟩
 rw [wt5 h2, <- hx.1, <- hy.1]; exact hz
end Go.Proofs.YtcdcoeofhnfjdaaGreatDoor
namespace Go.Proofs.YtcdcoeofhnfjdaaGreatDoor
open Go Vm
theorem w57 (r : List Nat) (h : By r) (hs : r.length <= 1000000000000000) : z2o fuel (sb (45 :: r)) (⟨#[45]⟩ : ByteArray) = some (sb r, true) := by
 have e45 : (⟨#[45]⟩ : ByteArray) = sb [45] := rfl
 have hb : By (45 :: r) := fun c hc => by
  rcases List.mem_cons.1 hc with rfl | hc
  ·decide
  ·exact h c hc
 have hb1 : By [45] := fun c hc => by rw [List.mem_singleton] at hc; omega
 have s1 : ((sb [45]).size : Int) = 1 := rfl
 have s2 : ((sb (45 :: r)).size : Int) = (r.length : Int) + 1 := by rw [z4a]; rfl
 unfold z2o z56 z57
 rw [e45]
 simp only [s1, s2]
 rw [if_pos (by simp only [decide_eq_true_eq]; omega), if_pos (by omega), if_pos (by omega), zg0, show ((45 :: r).take (1 : Int).toNat).drop 0 = [45] from rfl, w89 hb1 hb1, Option.bind_some, if_neg (by decide), if_pos (by omega), if_pos (by omega), zg0, z4a, List.take_length]
 rfl
theorem w9l (l : List Nat) (h : By l) (h0 : l.head? ≠ some 45) (hs : l.length <= 1000000000000000) : z2o fuel (sb l) (⟨#[45]⟩ : ByteArray) = some (sb l, false) := by
 have e45 : (⟨#[45]⟩ : ByteArray) = sb [45] := rfl
 have hb1 : By [45] := fun c hc => by rw [List.mem_singleton] at hc; omega
 have s1 : ((sb [45]).size : Int) = 1 := rfl
 unfold z2o z56 z57
 rw [e45]
 simp only [s1]
 simp only [z4a]
 cases l with
 | nil =>
  rw [if_neg (by decide), Option.bind_some, if_pos (by rfl), Option.bind_some]
 | cons c r =>
  have hc : By [c] := fun d hd => by rw [List.mem_singleton] at hd; subst hd; exact h d (List.mem_cons_self ..)
  have hl : ((c :: r).length : Int) = (r.length : Int) + 1 := rfl
  rw [hl, if_pos (by simp only [decide_eq_true_eq]; omega), if_pos (by omega), if_pos (by omega), zg0, show ((c :: r).take (1 : Int).toNat).drop 0 = [c] from rfl, w89 hc hb1, Option.bind_some, if_pos, Option.bind_some]
  have : c ≠ 45 := fun e => h0 (by rw [e]; rfl)
  simp [this]
theorem w5r : ∀ (p r : List Nat), By p -> 47 ∉ p -> Lib.indexByte ((p ++ 47 :: r).map UInt8.ofNat) 47 = (p.length : Int)
 | [], r, _, _ => by simp [Lib.indexByte]
 | c :: p, r, hb, h => by
  have hc : c < 256 := hb c (List.mem_cons_self ..)
  have hne : (UInt8.ofNat c == 47) = false := by
   have : UInt8.ofNat c ≠ 47 := fun e => by
    have h3 := congrArg UInt8.toNat e
    have h4 : (UInt8.ofNat c).toNat = c := UInt8.toNat_ofNat_of_lt hc
    have h5 : UInt8.toNat 47 = 47 := rfl
    have h6 : c = 47 := by omega
    exact h (by rw [h6]; exact List.mem_cons_self ..)
   simpa using this
  have ih := w5r p r (fun d hd => hb d (List.mem_cons_of_mem _ hd)) fun hm => h (List.mem_cons_of_mem _ hm)
  have h2 : ((p.length : Int) == -1) = false := by simp
  simp only [List.cons_append, List.map_cons, Lib.indexByte, hne, Bool.false_eq_true, if_false, ih, h2]
  simp
theorem w5s : ∀ (p : List Nat), By p -> 47 ∉ p -> Lib.indexByte (p.map UInt8.ofNat) 47 = -1
 | [], _, _ => rfl
 | c :: p, hb, h => by
  have hc : c < 256 := hb c (List.mem_cons_self ..)
  have hne : (UInt8.ofNat c == 47) = false := by
   have : UInt8.ofNat c ≠ 47 := fun e => by
    have h3 := congrArg UInt8.toNat e
    have h4 : (UInt8.ofNat c).toNat = c := UInt8.toNat_ofNat_of_lt hc
    have h5 : UInt8.toNat 47 = 47 := rfl
    have h6 : c = 47 := by omega
    exact h (by rw [h6]; exact List.mem_cons_self ..)
   simpa using this
  have ih := w5s p (fun d hd => hb d (List.mem_cons_of_mem _ hd)) fun hm => h (List.mem_cons_of_mem _ hm)
  simp only [List.map_cons, Lib.indexByte, hne, Bool.false_eq_true, if_false, ih]
  rfl
theorem w0u (l : List Nat) : Vm.stdIndex (sb l) (⟨#[47]⟩ : ByteArray) = some (Lib.indexByte (l.map UInt8.ofNat) 47) := by
 unfold Vm.stdIndex
 have : (sb l).data.toList = l.map UInt8.ofNat := by simp [sb]
 rw [if_pos (by decide), this]
 rfl
theorem w9k (p r : List Nat) (hp : By p) (h : 47 ∉ p) (hs : p.length + r.length <= 1000000000000000) : z5t fuel (sb (p ++ 47 :: r)) (⟨#[47]⟩ : ByteArray) = some (sb p, sb r, true) := by
 unfold z5t z8c
 have s1 : (((⟨#[47]⟩ : ByteArray).size : Nat) : Int) = 1 := rfl
 have s2 : ((sb (p ++ 47 :: r)).size : Int) = ((p.length + r.length + 1 : Nat) : Int) := by rw [z4a, List.length_append, List.length_cons]; omega
 have w1 : IntKind.i64.wrap ((p.length : Int) + 1) = ((p.length + 1 : Nat) : Int) := by rw [w64 _ (by omega) (by omega)]; omega
 rw [w0u, w5r p r hp h, Option.bind_some]
 simp only [s1, s2, w1]
 rw [if_pos (by simp), if_pos (by omega), if_pos (by omega), if_pos (by omega), if_pos (by omega), zg0, zg0, Int.toNat_natCast, Int.toNat_natCast, Option.bind_some, List.drop_zero, List.take_left, z4a, List.take_length]
 congr 3
 rw [List.drop_append, List.drop_of_length_le (by omega), List.nil_append, show p.length + 1 - p.length = 1 by omega]
 rfl
theorem wp0 (p : List Nat) (hp : By p) (h : 47 ∉ p) : z5t fuel (sb p) (⟨#[47]⟩ : ByteArray) = some (sb p, (⟨#[]⟩ : ByteArray), false) := by
 unfold z5t z8c
 rw [w0u, w5s p hp h, Option.bind_some, if_neg (by decide), Option.bind_some]
theorem v2h (n : Nat) : 47 ∉ dt n := fun h => by have := w9u h; omega
theorem y7a (r : Rat) (hs : (rtb r).length <= 1000000000) : ∃ rest, z2o fuel (rt r) (⟨#[45]⟩ : ByteArray) = some (sb rest, decide (r.num < 0)) /\
  z5t fuel (sb rest) (⟨#[47]⟩ : ByteArray) = some (txt r.num.natAbs, (if r.den = 1 then (⟨#[]⟩ : ByteArray) else txt r.den), !decide (r.den = 1)) := by
 have hb := w97 r
 refine ⟨dt r.num.natAbs ++ (if r.den = 1 then [] else 47 :: dt r.den), ?_, ?_⟩
 ·unfold rt
  by_cases h : r.num < 0
  ·have e : rtb r = 45 :: (dt r.num.natAbs ++ (if r.den = 1 then [] else 47 :: dt r.den)) := by unfold rtb; rw [if_pos h]; rfl
   rw [e] at hb hs ⊢
   rw [w57 _ (fun c hc => hb c (List.mem_cons_of_mem _ hc)) (by simp only [List.length_cons] at hs; omega), show decide (r.num < 0) = true by simpa using h]
  ·have e : rtb r = dt r.num.natAbs ++ (if r.den = 1 then [] else 47 :: dt r.den) := by unfold rtb; rw [if_neg h]; rfl
   rw [e] at hb hs ⊢
   rw [w9l _ hb ?_ (by omega), show decide (r.num < 0) = false by simpa using h]
   cases hd : dt r.num.natAbs with
   | nil => exact absurd hd (wt8 _)
   | cons c l =>
    intro e
    have := w9u (n := r.num.natAbs) (c := c) (by rw [hd]; exact List.mem_cons_self ..)
    simp only [List.cons_append, List.head?_cons, Option.some.injEq] at e
    omega
 ·have hl : (dt r.num.natAbs).length + (if r.den = 1 then ([] : List Nat) else 47 :: dt r.den).length <= 1000000000 := by
   unfold rtb at hs
   simp only [List.length_append] at hs
   omega
  by_cases h : r.den = 1
  ·rw [if_pos h, if_pos h, List.append_nil, wp0 _ (ye6 _) (v2h _), show decide (r.den = 1) = true by simpa using h]
   rfl
  ·rw [if_neg h, if_neg h]
   rw [if_neg h] at hl
   simp only [List.length_cons] at hl
   rw [w9k _ _ (ye6 _) (v2h _) (by omega), show decide (r.den = 1) = false by simpa using h]
   rfl
def OkR (r : Rat) : Prop := Ok r.num.natAbs /\ Ok r.den
instance (r : Rat) : Decidable (OkR r) := inferInstanceAs (Decidable (Ok r.num.natAbs /\ Ok r.den))
theorem w49 {r : Rat} (h : OkR r) : (rtb r).length <= 4002 := by
 unfold rtb
 have h1 := h.1; have h2 := h.2
 unfold Ok at h1 h2
 have l1 : (dt r.num.natAbs).length = (dig r.num.natAbs).length := by rw [dt, List.length_map]
 have l2 : (dt r.den).length = (dig r.den).length := by rw [dt, List.length_map]
 simp only [List.length_append]
 have a1 : (if r.num < 0 then [45] else ([] : List Nat)).length <= 1 := by split <;> simp
 have a2 : (if r.den = 1 then ([] : List Nat) else 47 :: dt r.den).length <= 2001 := by
  split
  ·simp
  ·simp only [List.length_cons]; omega
 omega
theorem zl8 {r : Rat} (h : OkR r) : Dr 2000 r := ⟨(z43 _ 2000 (by decide)).1 h.1, (z43 _ 2000 (by decide)).1 h.2⟩
theorem zy1 {r : Rat} {k : Nat} (h : Dr k r) (h1 : 1 <= k) (hk : k <= 2000) : OkR r := ⟨wm8 h.1 h1 hk, wm8 h.2 h1 hk⟩
theorem w3v {r : Rat} (h : OkR r) : ∃ q, zc4 fuel (rt r) = some q /\ QR r q := by
 unfold zc4
 obtain ⟨rest, e1, e2⟩ := y7a r (by have := w49 h; omega)
 rw [e1, Option.bind_some, e2, Option.bind_some, y3c h.1, Option.bind_some, of_one, Option.bind_some]
 by_cases hd : r.den = 1
 ·rw [if_neg (by simp [hd])]
  refine ⟨_, rfl, rfl, rfl, .inl ?_⟩
  rw [hd]
 ·rw [if_pos (by simp [hd])]
  simp only [if_neg hd]
  rw [y3c h.2, Option.bind_some]
  exact ⟨_, rfl, rfl, rfl, .inl rfl⟩
theorem txt_one : (⟨#[49]⟩ : ByteArray) = txt 1 := by
 have : dt 1 = [49] := by
  unfold dt dig
  rw [if_neg (by decide), y56 (by decide), show 1 / 10 = 0 from rfl, zm3]; rfl
 unfold txt
 rw [this]
 rfl
theorem w1g {r : Rat} {q : Qd} {k : Nat} (h : QR r q) (hr : Dr k r) (hk : k <= 4194304) : z7s fuel q = some (rt r) := by
 unfold z7s
 by_cases h0 : r = 0
 ·rw [if_pos (y2v h h0), h0, y3f]
  exact congrArg some (wr4 0).symm
 rw [if_neg (by rw [y0v h h0]; simp)]
 have z1 := zi7 hr.1 (by omega)
 have z2 := zi7 hr.2 (by omega)
 have l1 : (dt r.num.natAbs).length <= 4194304 := by
  rw [dt, List.length_map]
  by_cases hk0 : k = 0
  ·have := hr.2; rw [hk0] at this; have := r.den_nz; simp at *; omega
  ·exact Nat.le_trans ((z43 _ k (by omega)).2 hr.1) hk
 have l2 : (dt r.den).length <= 4194304 := by
  rw [dt, List.length_map]
  by_cases hk0 : k = 0
  ·have := hr.2; rw [hk0] at this; have := r.den_nz; simp at *; omega
  ·exact Nat.le_trans ((z43 _ k (by omega)).2 hr.2) hk
 have e45 : (⟨#[45]⟩ : ByteArray) = sb [45] := rfl
 have e47 : (⟨#[47]⟩ : ByteArray) = sb [47] := rfl
 have t1 : txt r.num.natAbs = sb (dt r.num.natAbs) := rfl
 have t2 : txt r.den = sb (dt r.den) := rfl
 rw [h.2.1, yx1 _ (sz8 z1), Option.bind_some, txt_one, h.1, e45, e47]
 unfold rt rtb
 by_cases hn : r.num < 0
 ·rw [if_pos (by simpa using hn), if_pos hn, if_pos (by rw [t1, z4a, z4a]; simp only [List.length_cons, List.length_nil]; omega), zv9 h, Option.bind_some, yx1 _ (sz8 z2), Option.bind_some, y4t]
  by_cases hd : r.den = 1
  ·rw [if_neg (by simp [hd]), if_pos hd, t1, y02, List.append_nil]
  ·rw [if_pos (by simp [hd]), if_neg hd, if_pos (by rw [t2, z4a, z4a]; simp only [List.length_cons, List.length_nil]; omega), t1, t2, y02, y02, if_pos (by rw [z4a, z4a]; simp only [List.length_cons, List.length_nil, List.length_append]; omega), y02, List.append_assoc]
   rfl
 ·rw [if_neg (by simpa using hn), if_neg hn, zv9 h, Option.bind_some, yx1 _ (sz8 z2), Option.bind_some, y4t]
  by_cases hd : r.den = 1
  ·rw [if_neg (by simp [hd]), if_pos hd, t1, List.append_nil, List.nil_append]
  ·rw [if_pos (by simp [hd]), if_neg hd, if_pos (by rw [t2, z4a, z4a]; simp only [List.length_cons, List.length_nil]; omega), t1, t2, y02, if_pos (by rw [z4a, z4a]; simp only [List.length_cons, List.length_nil, List.length_append]; omega), y02, List.nil_append]
   rfl
theorem yf5 {n : Nat} (h : (cn n).length <= 8388608) : z75 fuel (zs (cn n)) = some ((dig n).length : Int) := by
 unfold z75
 rw [yx1 n h, Option.bind_some, w6t]
theorem y0q {r : Rat} {q : Qd} {k : Nat} (h : QR r q) (hr : Dr k r) (hk : k <= 4194304) : z88 fuel q = some (if OkR r then 0 else 2) := by
 unfold z88
 have z1 := zi7 hr.1 (by omega)
 have z2 := zi7 hr.2 (by omega)
 rw [h.2.1, yf5 (sz8 z1), Option.bind_some]
 by_cases h1 : Ok r.num.natAbs
 ·have h1' := h1
  unfold Ok at h1'
  rw [if_pos (by simp only [decide_eq_false_iff_not]; omega)]
  rcases h.2.2 with e | ⟨h0, e⟩
  ·rw [e, yf5 (sz8 z2), Option.bind_some]
   by_cases h2 : Ok r.den
   ·have h2' := h2
    unfold Ok at h2'
    rw [if_neg (by simp only [decide_eq_true_eq]; omega), if_pos ⟨h1, h2⟩]
   ·have h2' := h2
    unfold Ok at h2'
    rw [if_pos (by simp only [decide_eq_true_eq]; omega), if_neg (fun x => h2 x.2)]
  ·have hd : z75 fuel q.2.2 = some 1 := by
    have := yf5 (n := 0) (by rw [z53]; decide)
    rw [e, <- show zs (cn 0) = ([] : List Int) by rw [z53]; rfl, this]
    rfl
   rw [hd, Option.bind_some, if_neg (by decide), if_pos ⟨h1, by rw [h0]; exact wm8 (k := 1) (by decide) (by decide) (by decide)⟩]
 ·have h1' := h1
  unfold Ok at h1'
  rw [if_neg (by simp only [decide_eq_false_iff_not]; omega), if_neg (fun x => h1 x.1)]
theorem wy5 {r : Rat} {q : Qd} {k : Nat} (h : QR r q) (hr : Dr k r) (hk : k <= 4194304) : zf5 fuel q = some (if OkR r then (rt r, 0) else (⟨#[]⟩, 2)) := by
 unfold zf5
 rw [y0q h hr hk, Option.bind_some]
 by_cases ho : OkR r
 ·rw [if_pos ho, if_neg (by decide), w1g h hr hk, Option.bind_some, if_pos ho]
 ·rw [if_neg ho, if_pos (by decide), if_neg ho]
end Go.Proofs.YtcdcoeofhnfjdaaGreatDoor
namespace Go.Proofs.YtcdcoeofhnfjdaaGreatDoor
open Go Vm
theorem w9d {n : Nat} (h : Sz n) (h0 : 0 < n) : z4v fuel (zs (cn n)) (zs (cn 1)) = some (if n = 1 then 0 else 1) := by
 rw [w56 h (yj7 h0 h), if_neg (show ¬ n < 1 by omega)]
 by_cases h1 : n = 1
 ·rw [if_neg (by omega), if_pos h1]
 ·rw [if_pos (by omega), if_neg h1]
theorem w1l {r : Rat} (h : OkR r) : z9k fuel (rt r) = some 0 := by
 unfold z9k
 obtain ⟨rest, e1, e2⟩ := y7a r (by have := w49 h; omega)
 rw [e1, Option.bind_some, e2, Option.bind_some, w0e h.1, Option.bind_some]
 by_cases hd : r.den = 1
 ·have b : (!decide (r.den = 1)) = false := by simp [hd]
  simp only [b, Bool.false_eq_true, if_false]
  by_cases hn : r.num < 0
  ·have b2 : decide (r.num < 0) = true := by simpa using hn
   rw [if_pos (by decide)]
   simp only [b2, if_true]
   rw [y3f, y4t, if_neg (by rw [decide_eq_true_eq]; omega), if_pos (by decide)]
  ·have b2 : decide (r.num < 0) = false := by simpa using hn
   rw [if_pos (by decide)]
   simp only [b2, Bool.false_eq_true, if_false]
   rw [if_pos (by decide)]
 ·have b : (!decide (r.den = 1)) = true := by simp [hd]
  have hz : Sz r.num.natAbs := we4 h.1
  have hz2 : Sz r.den := we4 h.2
  have h0 := r.den_nz
  have hg : Nat.gcd r.num.natAbs r.den = 1 := r.reduced
  have tail : (z3r fuel (txt r.num.natAbs)).bind (fun r5 => (z3r fuel (txt r.den)).bind fun r6 => (z6l fuel r5 r6).bind fun r7 => (z69 fuel 1).bind fun r8 => (z4v fuel r7 r8).bind fun r9 => if (r9 != 0) = true then some 3 else some 0) = some (0 : Int) := by
   rw [y3c h.1, Option.bind_some, y3c h.2, Option.bind_some, wb2 hz hz2, Option.bind_some, of_one, Option.bind_some, hg, w9d (yj7 (by omega) hz2) (by decide), Option.bind_some]
   rfl
  simp only [b, if_true, if_neg hd]
  rw [w0e h.2, Option.bind_some, if_pos (by decide), if_pos (by decide)]
  by_cases hn : r.num < 0
  ·have b2 : decide (r.num < 0) = true := by simpa using hn
   simp only [b2, if_true]
   rw [y3f, y4t, if_neg (by rw [decide_eq_true_eq]; omega), if_pos (by decide), if_neg (by decide), y4t, if_pos (by simpa using h0), txt_one, y4t, if_pos (by simpa using hd)]
   exact tail
  ·have b2 : decide (r.num < 0) = false := by simpa using hn
   simp only [b2, Bool.false_eq_true, if_false]
   rw [y3f, if_pos (by decide), if_neg (by decide), y4t, if_pos (by simpa using h0), txt_one, y4t, if_pos (by simpa using hd)]
   exact tail
theorem w5y {neg : Bool} {m d : Nat} (hm : m ≠ 0) (hd : d ≠ 0) (hg : Nat.gcd m d = 1) : (mkRat (sgn neg m) d).num.natAbs = m /\ (mkRat (sgn neg m) d).den = d /\ decide ((mkRat (sgn neg m) d).num < 0) = neg := by
 have := y87 neg hm hd
 rwa [hg, Nat.div_one, Nat.div_one] at this
theorem w4d (s : ByteArray) (hs : s.size <= 900000000000000) : (∃ e : Int, e ≠ 0 /\ z9k fuel s = some e) \/ ∃ r, s = rt r /\ OkR r := by
 have e := v0y s
 have hb := v04 s
 have hl : s.size = (bt s).length := by rw [<- z4a, e]
 generalize bt s = l at *
 subst e
 -- sign
 obtain ⟨neg, l', e1, hl', hsign⟩ : ∃ (neg : Bool) (l' : List Nat), z2o fuel (sb l) (⟨#[45]⟩ : ByteArray) = some (sb l', neg) /\ l'.length <= 900000000000000 /\ l = (if neg then [45] else []) ++ l' := by
  by_cases h : l.head? = some 45
  ·cases l with
   | nil => cases h
   | cons c r =>
    simp only [List.head?_cons, Option.some.injEq] at h
    subst h
    simp only [List.length_cons] at hl
    exact ⟨true, r, w57 r (fun c hc => hb c (List.mem_cons_of_mem _ hc)) (by omega), by omega, rfl⟩
  ·exact ⟨false, l, w9l l hb h (by omega), by omega, rfl⟩
 have hb' : By l' := fun c hc => hb c (by rw [hsign]; exact List.mem_append_right _ hc)
 unfold z9k
 rw [e1, Option.bind_some]
 by_cases h47 : 47 ∈ l'
 ·obtain ⟨p, q, hpq, hp⟩ : ∃ p q, l' = p ++ 47 :: q /\ 47 ∉ p := by
   have : ∀ (l : List Nat), 47 ∈ l -> ∃ p q, l = p ++ 47 :: q /\ 47 ∉ p := by
    intro l
    induction l with
    | nil => intro h; cases h
    | cons c l ih =>
     intro h
     by_cases hc : c = 47
     ·subst hc; exact ⟨[], l, rfl, by simp⟩
     ·obtain ⟨p, q, rfl, hp⟩ := ih (by
        rcases List.mem_cons.1 h with h | h
        · exact absurd h.symm hc
        · exact h)
      refine ⟨c :: p, q, rfl, fun hm => ?_⟩
      rcases List.mem_cons.1 hm with h | h
      ·exact hc h.symm
      ·exact hp h
   exact this l' h47
  subst hpq
  simp only [List.length_append, List.length_cons] at hl'
  have hbp : By p := (y6d.1 hb').1
  have hbq : By q := fun c hc => (y6d.1 hb').2 c (List.mem_cons_of_mem _ hc)
  rw [w9k p q hbp hp (by omega), Option.bind_some]
  simp only [if_true]
  rcases y39 (sb p) (by rw [z4a]; omega) with ⟨x, x0, ex, _⟩ | ⟨m, em, hm, ex⟩
  ·rw [ex, Option.bind_some]
   refine .inl ?_
   rcases y39 (sb q) (by rw [z4a]; omega) with ⟨y, y0, ey, _⟩ | ⟨d, ed, hd, ey⟩
   ·rw [ey, Option.bind_some]
    by_cases x5 : x = 5
    ·rw [if_neg (by simp [x5])]; exact ⟨5, by decide, rfl⟩
    rw [if_pos (by simpa using x5)]
    by_cases y5 : y = 5
    ·rw [if_neg (by simp [y5])]; exact ⟨5, by decide, rfl⟩
    rw [if_pos (by simpa using y5)]
    have k : ((x != 0) = false) = False := by simp [x0]
    simp only [k, if_false]
    split
    ·split
     ·exact ⟨5, by decide, rfl⟩
     ·exact ⟨2, by decide, rfl⟩
    ·exact ⟨2, by decide, rfl⟩
   ·rw [ey, Option.bind_some]
    by_cases x5 : x = 5
    ·rw [if_neg (by simp [x5])]; exact ⟨5, by decide, rfl⟩
    rw [if_pos (by simpa using x5), if_pos (by decide)]
    have k : ((x != 0) = false) = False := by simp [x0]
    simp only [k, if_false]
    split
    ·split
     ·exact ⟨5, by decide, rfl⟩
     ·exact ⟨2, by decide, rfl⟩
    ·exact ⟨2, by decide, rfl⟩
  ·rw [ex, Option.bind_some]
   rcases y39 (sb q) (by rw [z4a]; omega) with ⟨y, y0, ey, _⟩ | ⟨d, ed, hd, ey⟩
   ·rw [ey, Option.bind_some]
    refine .inl ?_
    rw [if_pos (by decide)]
    by_cases y5 : y = 5
    ·rw [if_neg (by simp [y5])]; exact ⟨5, by decide, rfl⟩
    rw [if_pos (by simpa using y5)]
    have k : ((y != 0) = true) = True := by simp [y0]
    simp only [k, if_true, show (((0 : Int) != 0) = false) = True by decide]
    split
    ·split
     ·exact ⟨5, by decide, rfl⟩
     ·exact ⟨2, by decide, rfl⟩
    ·exact ⟨2, by decide, rfl⟩
   ·rw [ey, Option.bind_some, if_pos (by decide), if_pos (by decide), em, ed, y3f, txt_one]
    simp only [y4t, show (((0 : Int) != 0) = false) = True by decide, show (((0 : Int) != 0) = true) = False by decide, if_true, if_false]
    have hom : Ok m := hm
    have hod : Ok d := hd
    have rd : 0 < Nat.gcd m d \/ (m = 0 /\ d = 0) := by
     rcases Nat.eq_zero_or_pos (Nat.gcd m d) with h | h
     ·exact .inr (Nat.gcd_eq_zero_iff.1 h)
     ·exact .inl h
    by_cases hd0 : d = 0
    ·refine .inl ?_
     have b : (decide (d = 0) = false) = False := by simp [hd0]
     simp only [b, if_false]
     split
     ·split
      ·exact ⟨5, by decide, rfl⟩
      ·exact ⟨3, by decide, rfl⟩
     ·exact ⟨3, by decide, rfl⟩
    have b0 : (decide (d = 0) = false) = True := by simp [hd0]
    by_cases hd1 : d = 1
    ·refine .inl ?_
     have b : (decide (d = 1) = false) = False := by simp [hd1]
     simp only [b0, b, if_true, if_false]
     split
     ·split
      ·exact ⟨5, by decide, rfl⟩
      ·exact ⟨3, by decide, rfl⟩
     ·exact ⟨3, by decide, rfl⟩
    have b1 : (decide (d = 1) = false) = True := by simp [hd1]
    have hgp : 0 < Nat.gcd m d := by omega
    have hgz : Sz (Nat.gcd m d) := yj7 (Nat.le_of_dvd (by omega) (Nat.gcd_dvd_right m d)) (we4 hod)
    simp only [b0, b1, if_true]
    rw [y3c hom, Option.bind_some, y3c hod, Option.bind_some, wb2 (we4 hom) (we4 hod), Option.bind_some, of_one, Option.bind_some, w9d hgz hgp, Option.bind_some]
    by_cases hg : Nat.gcd m d = 1
    ·simp only [if_pos hg, show (((0 : Int) != 0) = true) = False by decide, if_false]
     have hm0 : m ≠ 0 := fun e => by rw [e, Nat.gcd_zero_left] at hg; exact hd1 hg
     refine .inr ⟨mkRat (sgn neg m) d, ?_, ?_⟩
     ·obtain ⟨p1, p2, p3⟩ := w5y (neg := neg) hm0 hd0 hg
      have hpm : p = dt m := by
       have := congrArg bt em
       unfold txt at this
       rwa [ye5 hbp, ye5 (ye6 m)] at this
      have hqd : q = dt d := by
       have := congrArg bt ed
       unfold txt at this
       rwa [ye5 hbq, ye5 (ye6 d)] at this
      unfold rt rtb
      rw [hsign, p1, p2, hpm, hqd, if_neg hd1]
      congr 1
      cases neg
      ·rw [if_neg (show ¬ (mkRat (sgn false m) d).num < 0 by simpa using p3)]; rfl
      ·rw [if_pos (show (mkRat (sgn true m) d).num < 0 by simpa using p3)]; rfl
     ·obtain ⟨p1, p2, _⟩ := w5y (neg := neg) hm0 hd0 hg
      exact ⟨by rw [p1]; exact hom, by rw [p2]; exact hod⟩
    ·simp only [if_neg hg, show (((1 : Int) != 0) = true) = True by decide, if_true]
     refine .inl ?_
     split
     ·split
      ·exact ⟨5, by decide, rfl⟩
      ·exact ⟨3, by decide, rfl⟩
     ·exact ⟨3, by decide, rfl⟩
 ·rw [wp0 l' hb' h47, Option.bind_some]
  simp only [Bool.false_eq_true, if_false]
  rcases y39 (sb l') (by rw [z4a]; omega) with ⟨x, x0, ex, _⟩ | ⟨m, em, hm, ex⟩
  ·rw [ex, Option.bind_some]
   refine .inl ?_
   by_cases x5 : x = 5
   ·rw [if_neg (by simp [x5])]; exact ⟨5, by decide, rfl⟩
   rw [if_pos (by simpa using x5)]
   have k : ((x != 0) = false) = False := by simp [x0]
   simp only [k, if_false]
   split
   ·split
    ·exact ⟨5, by decide, rfl⟩
    ·exact ⟨2, by decide, rfl⟩
   ·exact ⟨2, by decide, rfl⟩
  ·rw [ex, Option.bind_some, if_pos (by decide), em, y3f]
   simp only [y4t, show (((0 : Int) != 0) = false) = True by decide, if_true]
   by_cases hbad : neg = true /\ m = 0
   ·refine .inl ⟨5, by decide, ?_⟩
    rw [if_pos hbad.1, if_pos (by simpa using hbad.2)]
   ·have hlm : l' = dt m := by
     have := congrArg bt em
     unfold txt at this
     rwa [ye5 hb', ye5 (ye6 m)] at this
    have v1 : (mkRat (sgn neg m) 1).num = sgn neg m /\ (mkRat (sgn neg m) 1).den = 1 := by
     rw [Rat.mkRat_one]; exact ⟨rfl, rfl⟩
    refine .inr ⟨mkRat (sgn neg m) 1, ?_, ?_⟩
    ·unfold rt rtb
     rw [hsign, hlm, v1.1, v1.2, yw7, if_pos rfl, List.append_nil]
     congr 1
     cases neg
     ·rw [if_neg (show ¬ sgn false m < 0 by simp [sgn])]; rfl
     ·have : m ≠ 0 := fun e => hbad ⟨rfl, e⟩
      rw [if_pos (show sgn true m < 0 by simp [sgn]; omega)]; rfl
    ·refine ⟨?_, ?_⟩
     ·rw [v1.1, yw7]; exact hm
     ·rw [v1.2]; exact wm8 (k := 1) (by decide) (by decide) (by decide)
theorem y6p (l : List Rat) (i : Nat) (h : i < l.length) : (l.map rt).getD i ByteArray.empty = rt (l.getD i 0) := by
 simp only [List.getD_eq_getElem?_getD, List.getElem?_map]
 rw [List.getElem?_eq_getElem h]; rfl
theorem y6g (l : List ByteArray) (hs : l.length <= 4611686018427387904) (hb : ∀ s, s ∈ l -> s.size <= 900000000000000) : ∀ (m i : Nat) (rs : List Rat), i <= l.length -> l.length < m + i -> l.take i = rs.map rt -> (∀ r, r ∈ rs -> OkR r) ->
  (∃ e : Int, e ≠ 0 /\ z2w m l (l.length : Int) (i : Int) = some (.ret (e, ()))) \/ ∃ rs : List Rat, l = rs.map rt /\ (∀ r, r ∈ rs -> OkR r) /\ z2w m l (l.length : Int) (i : Int) = some (.exit ())
 | 0, i, rs, h1, h2, h3, h4 => by omega
 | m + 1, i, rs, h1, h2, h3, h4 => by
  simp only [z2w]
  by_cases hi : i < l.length
  ·have e4 : IntKind.i64.wrap ((i : Int) + 1) = ((i + 1 : Nat) : Int) := by rw [w64 _ (by omega) (by omega)]; omega
   rw [if_pos (by simpa using hi), if_pos (by omega), if_pos (by omega), Int.toNat_natCast, z2u l i _ hi, e4]
   rcases w4d l[i] (hb _ (List.getElem_mem hi)) with ⟨e, e0, h⟩ | ⟨r, hr, hok⟩
   ·rw [h, Option.bind_some, if_pos (ne0 e0)]
    exact .inl ⟨e, e0, rfl⟩
   ·rw [hr, w1l hok, Option.bind_some, if_neg (by decide)]
    refine y6g l hs hb m (i + 1) (rs ++ [r]) (by omega) (by omega) ?_ ?_
    ·rw [List.take_succ_eq_append_getElem hi, h3, hr, List.map_append]; rfl
    ·intro x hx
     rcases List.mem_append.1 hx with hx | hx
     ·exact h4 x hx
     ·rw [List.mem_singleton] at hx; rw [hx]; exact hok
  ·rw [if_neg (by simpa using hi)]
   refine .inr ⟨rs, ?_, h4, rfl⟩
   rw [<- h3, List.take_of_length_le (by omega)]
theorem y6h (l : List ByteArray) (hs : l.length <= 4611686018427387904) (hb : ∀ s, s ∈ l -> s.size <= 900000000000000) :
  (∃ e : Int, e ≠ 0 /\ z3g fuel l = some e) \/ ∃ rs : List Rat, l = rs.map rt /\ (∀ r, r ∈ rs -> OkR r) /\ z3g fuel l = some 0 := by
 unfold z3g
 have hf := z7u (n := 2 ^ 100) (by decide)
 rcases y6g l hs hb fuel 0 [] (by omega) (by omega) rfl (fun _ h => by cases h) with ⟨e, e0, h⟩ | ⟨rs, h1, h2, h⟩
 ·have h : z2w fuel l (l.length : Int) 0 = _ := h
  rw [h]
  exact .inl ⟨e, e0, rfl⟩
 ·have h : z2w fuel l (l.length : Int) 0 = _ := h
  rw [h]
  exact .inr ⟨rs, h1, h2, rfl⟩
theorem wr3 {r s : Rat} (h : rt r = rt s) : r = s := by
 have := congrArg bt h
 unfold rt at this
 rw [ye5 (w97 r), ye5 (w97 s)] at this
 exact wx5 this
theorem w6h {r : Rat} (h : OkR r) : (rt r).size <= 900000000000000 := by
 have := w49 h
 unfold rt
 rw [z4a]; omega
theorem zo8 (rs : List Rat) (hs : rs.length <= 4611686018427387904) (h : ∀ r, r ∈ rs -> OkR r) : z3g fuel (rs.map rt) = some 0 := by
 unfold z3g
 have hf := z7u (n := 2 ^ 100) (by decide)
 have key : ∀ (m i : Nat), i <= rs.length -> rs.length < m + i -> z2w m (rs.map rt) ((rs.map rt).length : Int) (i : Int) = some (.exit ()) := by
  intro m
  induction m with
  | zero => intro i h1 h2; omega
  | succ m ih =>
   intro i h1 h2
   simp only [z2w, List.length_map]
   by_cases hi : i < rs.length
   ·have e4 : IntKind.i64.wrap ((i : Int) + 1) = ((i + 1 : Nat) : Int) := by rw [w64 _ (by omega) (by omega)]; omega
    rw [if_pos (by simpa using hi), if_pos (by omega), if_pos (by omega), Int.toNat_natCast, y6p rs i hi, e4, w1l (h _ (by rw [z2u rs i 0 hi]; exact List.getElem_mem hi)), Option.bind_some, if_neg (by decide)]
    have := ih (i + 1) (by omega) (by omega)
    rw [List.length_map] at this
    exact this
   ·rw [if_neg (by simpa using hi)]
 have := key fuel 0 (by omega) (by omega)
 have : z2w fuel (rs.map rt) ((rs.map rt).length : Int) 0 = _ := this
 rw [this]
end Go.Proofs.YtcdcoeofhnfjdaaGreatDoor
namespace Go.Proofs.YtcdcoeofhnfjdaaGreatDoor
open Go Vm
theorem v05 {r s : Rat} (hr : OkR r) (hs : OkR s) : z3g fuel [rt r, rt s] = some 0 :=
 zo8 [r, s] (by simp) fun x hx => by
  rcases List.mem_cons.1 hx with rfl | hx
  ·exact hr
  ·rw [List.mem_singleton] at hx; rw [hx]; exact hs
theorem wf7 : (⟨#[49]⟩ : ByteArray) = rt 1 := txt_one.trans (wr4 1).symm
theorem yj0 {r s : Rat} (hr : OkR r) (hs : OkR s) : z6m fuel (rt r) (rt s) = some ((r - s).num.sign, 0) := by
 unfold z6m
 obtain ⟨x, ex, hx⟩ := w3v hr
 obtain ⟨y, ey, hy⟩ := w3v hs
 rw [v05 hr hs, Option.bind_some, if_neg (by decide), ex, Option.bind_some, ey, Option.bind_some, yw1 hx hy (zl8 hr) (zl8 hs) (by decide), Option.bind_some]
theorem v0w (r : Rat) : 0 < (rtb r).length := by
 unfold rtb
 have := wt8 r.num.natAbs
 have : 0 < (dt r.num.natAbs).length := List.length_pos_iff.2 this
 simp only [List.length_append]
 omega
theorem v0d (r : Rat) : Dr (rtb r).length r := by
 have hp := v0w r
 have l1 : (dt r.num.natAbs).length = (dig r.num.natAbs).length := by rw [dt, List.length_map]
 have l2 : (dt r.den).length = (dig r.den).length := by rw [dt, List.length_map]
 have hl : (rtb r).length = (if r.num < 0 then [45] else ([] : List Nat)).length + ((dt r.num.natAbs).length + (if r.den = 1 then ([] : List Nat) else 47 :: dt r.den).length) := by
  unfold rtb; simp only [List.length_append]
 refine ⟨(z43 _ _ (by omega)).1 (by omega), ?_⟩
 by_cases h : r.den = 1
 ·rw [h]; exact Nat.one_lt_pow (by omega) (by decide)
 ·rw [if_neg h, List.length_cons] at hl
  exact (z43 _ _ (by omega)).1 (by omega)
theorem wx4 (r : Rat) : (rt r).size = (rtb r).length := by unfold rt; rw [z4a]
end Go.Proofs.YtcdcoeofhnfjdaaGreatDoor
namespace Go.Proofs.YtcdcoeofhnfjdaaGreatDoor
open Go Vm
def psum : List Rat -> Rat
 | [] => 0
 | r :: l => r + psum l
theorem yi8 : ∀ (l : List Rat) (r : Rat), psum (l ++ [r]) = psum l + r
 | [], r => by simp only [List.nil_append, psum]; grind
 | a :: l, r => by rw [List.cons_append, psum, yi8 l r, psum]; grind
theorem w6r (rs : List Rat) (hs : rs.length <= 256) (h : ∀ r, r ∈ rs -> OkR r) : ∀ (m i : Nat) (q : Qd), i <= rs.length -> rs.length < m + i -> QR (psum (rs.take i)) q -> OkR (psum (rs.take i)) ->
  (∃ x k, k <= rs.length /\ ¬ OkR (psum (rs.take k)) /\ z7y m (rs.map rt) (rs.length : Int) (i : Int) q.1 q.2.1 q.2.2 = some (.ret ((⟨#[]⟩ : ByteArray), 2, x))) \/
  (∃ z : Qd, QR (psum rs) z /\ OkR (psum rs) /\ z7y m (rs.map rt) (rs.length : Int) (i : Int) q.1 q.2.1 q.2.2 = some (.exit (z.1, z.2.1, z.2.2, ())))
 | 0, i, q, h1, h2, h3, h4 => by omega
 | m + 1, i, q, h1, h2, h3, h4 => by
  simp only [z7y, List.length_map]
  by_cases hi : i < rs.length
  ·have e4 : IntKind.i64.wrap ((i : Int) + 1) = ((i + 1 : Nat) : Int) := by rw [w64 _ (by omega) (by omega)]; omega
   have ho : OkR (rs.getD i 0) := h _ (by rw [z2u rs i 0 hi]; exact List.getElem_mem hi)
   obtain ⟨x, ex, hx⟩ := w3v ho
   have hq : QR (psum (rs.take i)) (q.1, (q.2.1, q.2.2)) := h3
   obtain ⟨z, ez, hz⟩ := yw0 hq hx (zl8 h4) (zl8 ho) (by decide)
   have hsum : psum (rs.take i) + rs.getD i 0 = psum (rs.take (i + 1)) := by
    rw [List.take_succ_eq_append_getElem hi, yi8, z2u rs i 0 hi]
   rw [if_pos (by simpa using hi), if_pos (by omega), if_pos (by omega), Int.toNat_natCast, y6p rs i hi, ex, Option.bind_some, ez, Option.bind_some, y0q hz (w9q (zl8 h4) (zl8 ho)) (by decide), Option.bind_some, e4]
   rw [hsum] at hz ⊢
   by_cases hk : OkR (psum (rs.take (i + 1)))
   ·rw [if_pos hk, if_neg (by decide)]
    exact w6r rs hs h m (i + 1) z (by omega) (by omega) hz hk
   ·rw [if_neg hk, if_pos (by decide)]
    exact .inl ⟨_, i + 1, by omega, hk, rfl⟩
  ·rw [if_neg (by simpa using hi)]
   rw [List.take_of_length_le (by omega)] at h3 h4
   exact .inr ⟨q, h3, h4, rfl⟩
theorem v2q : OkR 0 := zy1 (k := 1) (y58 (by decide)) (by decide) (by decide)
theorem v15 (rs : List Rat) (hs : rs.length <= 256) (h : ∀ r, r ∈ rs -> OkR r) :
  ((∃ k, k <= rs.length /\ ¬ OkR (psum (rs.take k))) /\ zp4 fuel (rs.map rt) = some (⟨#[]⟩, 2)) \/ (OkR (psum rs) /\ zp4 fuel (rs.map rt) = some (rt (psum rs), 0)) := by
 unfold zp4
 have hf := zp8
 rw [List.length_map, if_neg (by simp only [decide_eq_true_eq]; omega), zo8 rs (by omega) h, Option.bind_some, if_neg (by decide)]
 rcases w6r rs hs h fuel 0 (false, [], []) (by omega) (by omega) zw8 v2q with ⟨x, k, hk, hn, g⟩ | ⟨z, hz, ho, g⟩
 ·have g : z7y fuel (rs.map rt) (rs.length : Int) 0 false [] [] = _ := g
  rw [g]
  exact .inl ⟨⟨k, hk, hn⟩, rfl⟩
 ·have g : z7y fuel (rs.map rt) (rs.length : Int) 0 false [] [] = _ := g
  have hz' : QR (psum rs) (z.1, (z.2.1, z.2.2)) := hz
  rw [g]
  simp only
  rw [wy5 hz' (zl8 ho) (by decide), if_pos ho, Option.bind_some]
  exact .inr ⟨ho, rfl⟩
theorem zn2 {r : Rat} : ¬ r.num.sign < 0 ↔ 0 <= r := by
 rw [<- Rat.num_nonneg]
 rcases Int.lt_trichotomy r.num 0 with h | h | h
 ·rw [Int.sign_eq_neg_one_of_neg h]; omega
 ·rw [h]; simp
 ·rw [Int.sign_eq_one_of_pos h]; omega
theorem w1b (rs : List Rat) (hs : rs.length <= 256) (h : ∀ r, r ∈ rs -> OkR r) : ∀ (m i : Nat), i <= rs.length -> rs.length < m + i -> (∀ r, r ∈ rs.take i -> 0 <= r) ->
  ((∃ r, r ∈ rs /\ ¬ 0 <= r) /\ z6j m (rs.map rt) (rs.length : Int) (i : Int) = some (.ret (4, ()))) \/ ((∀ r, r ∈ rs -> 0 <= r) /\ z6j m (rs.map rt) (rs.length : Int) (i : Int) = some (.exit ()))
 | 0, i, h1, h2, h3 => by omega
 | m + 1, i, h1, h2, h3 => by
  simp only [z6j, List.length_map]
  by_cases hi : i < rs.length
  ·have e4 : IntKind.i64.wrap ((i : Int) + 1) = ((i + 1 : Nat) : Int) := by rw [w64 _ (by omega) (by omega)]; omega
   have hmem : rs.getD i 0 ∈ rs := by rw [z2u rs i 0 hi]; exact List.getElem_mem hi
   obtain ⟨x, ex, hx⟩ := w3v (h _ hmem)
   rw [if_pos (by simpa using hi), if_pos (by omega), if_pos (by omega), Int.toNat_natCast, y6p rs i hi, ex, Option.bind_some, z8m hx, Option.bind_some, e4]
   by_cases hn : 0 <= rs.getD i 0
   ·rw [if_neg (by simp only [decide_eq_true_eq]; exact zn2.2 hn)]
    refine w1b rs hs h m (i + 1) (by omega) (by omega) fun r hr => ?_
    rw [List.take_succ_eq_append_getElem hi] at hr
    rcases List.mem_append.1 hr with hr | hr
    ·exact h3 r hr
    ·rw [List.mem_singleton] at hr; rw [hr, <- z2u rs i 0 hi]; exact hn
   ·rw [if_pos (by simp only [decide_eq_true_eq]; exact Decidable.of_not_not fun x => hn (zn2.1 x))]
    exact .inl ⟨⟨_, hmem, hn⟩, rfl⟩
  ·rw [if_neg (by simpa using hi)]
   rw [List.take_of_length_le (by omega)] at h3
   exact .inr ⟨h3, rfl⟩
theorem w1c (l : List ByteArray) (hl : l.length <= 4611686018427387904) (hb : ∀ s, s ∈ l -> s.size <= 900000000000000) :
  ∃ e : Int, z89 fuel l = some e /\ (e = 0 -> ∃ rs : List Rat, l = rs.map rt /\ rs.length <= 256 /\ (∀ r, r ∈ rs -> OkR r /\ 0 <= r) /\ psum rs = 1) := by
 have hf := zp8
 by_cases h256 : l.length <= 256
 ·rcases y6h l hl hb with ⟨e, e0, h⟩ | ⟨rs, rfl, hok, h⟩
  ·refine ⟨e, ?_, fun h => absurd h e0⟩
   unfold z89 zp4
   rw [if_neg (by simp only [decide_eq_true_eq]; omega), h, Option.bind_some, if_pos (by simpa using e0), Option.bind_some, if_pos (by simpa using e0)]
  ·rw [List.length_map] at h256
   unfold z89
   rcases v15 rs h256 hok with ⟨_, g⟩ | ⟨ho, g⟩
   ·rw [g]
    exact ⟨2, rfl, fun h => absurd h (by decide)⟩
   ·rw [g, Option.bind_some, if_neg (by simp), List.length_map]
    rcases w1b rs h256 hok fuel 0 (by omega) (by omega) (fun r h => by simp at h) with ⟨_, g2⟩ | ⟨hp, g2⟩
    ·have g2 : z6j fuel (rs.map rt) (rs.length : Int) 0 = _ := g2
     rw [g2]
     exact ⟨4, rfl, fun h => absurd h (by decide)⟩
    ·have g2 : z6j fuel (rs.map rt) (rs.length : Int) 0 = _ := g2
     rw [g2]
     simp only
     by_cases h1 : psum rs = 1
     ·rw [h1, wf7]
      refine ⟨0, by rw [if_neg (by simp)], fun _ => ⟨rs, rfl, h256, fun r hr => ⟨hok r hr, hp r hr⟩, h1⟩⟩
     ·refine ⟨3, if_pos ?_, fun h => absurd h (by decide)⟩
      rw [wf7]
      simp only [Bool.not_eq_true', beq_eq_false_iff_ne, ne_eq]
      intro e
      refine h1 (wr3 ?_)
      have : ∀ a b : ByteArray, a.toList = b.toList -> a = b := by
       intro a b h
       rw [ByteArray.toList_eq, ByteArray.toList_eq] at h
       cases a; cases b; simp at h; rw [h]
      exact this _ _ e
 ·refine ⟨2, ?_, fun h => absurd h (by decide)⟩
  unfold z89 zp4
  rw [if_pos (by simp only [decide_eq_true_eq]; omega)]
  rfl
end Go.Proofs.YtcdcoeofhnfjdaaGreatDoor
namespace Go.Proofs.YtcdcoeofhnfjdaaGreatDoor
open Go Vm
theorem y2e {α : Type} {a b : List α} {i : Nat} {d : α} (h : i < a.length) : (a ++ b).getD i d = a.getD i d := by
 rw [List.getD_eq_getElem?_getD, List.getElem?_append_left h, <- List.getD_eq_getElem?_getD]
theorem y6o {α : Type} {a : List α} {x d : α} {i : Nat} (h : i = a.length) : (a ++ [x]).getD i d = x := by
 rw [List.getD_eq_getElem?_getD, List.getElem?_append_right (by omega), h, Nat.sub_self]; rfl
def QRs (rs : List Rat) (qs : List Qd) : Prop := rs.length = qs.length /\ ∀ i, i < rs.length -> QR (rs.getD i 0) (qs.getD i (false, ([], [])))
theorem wn1 {rs : List Rat} {qs : List Qd} (h : QRs rs qs) {r : Rat} {q : Qd} (hr : QR r q) : QRs (rs ++ [r]) (qs ++ [q]) := by
 refine ⟨by rw [List.length_append, List.length_append, h.1]; rfl, fun i hi => ?_⟩
 rw [List.length_append, List.length_singleton] at hi
 by_cases e : i < rs.length
 ·rw [List.getD_eq_getElem?_getD, List.getD_eq_getElem?_getD, List.getElem?_append_left e, List.getElem?_append_left (by rw [<- h.1]; exact e), <- List.getD_eq_getElem?_getD, <- List.getD_eq_getElem?_getD]
  exact h.2 i e
 ·have : i = rs.length := by omega
  subst this
  rw [List.getD_eq_getElem?_getD, List.getD_eq_getElem?_getD, List.getElem?_append_right (by omega), List.getElem?_append_right (by rw [h.1]; omega), Nat.sub_self, h.1, Nat.sub_self]
  exact hr
theorem wl7 {α : Type} (n i : Nat) (x : α) : (List.replicate n x).getD i x = x := by
 rw [List.getD_eq_getElem?_getD, List.getElem?_replicate]; split <;> rfl
theorem w6g (rs : List Rat) (hl : rs.length <= 1000000) (h : ∀ r, r ∈ rs -> OkR r) : ∀ (m i : Nat) (qs : List Qd), i <= rs.length -> rs.length < m + i -> QRs (rs.take i) qs ->
  ∃ qs', z77 m (rs.map rt) (rs.length : Int) (i : Int) qs = some (.exit (qs', ())) /\ QRs rs qs'
 | 0, i, qs, h1, h2, _ => by omega
 | m + 1, i, qs, h1, h2, hq => by
  simp only [z77, List.length_map]
  by_cases hi : i < rs.length
  ·have e4 : IntKind.i64.wrap ((i : Int) + 1) = ((i + 1 : Nat) : Int) := by rw [w64 _ (by omega) (by omega)]; omega
   obtain ⟨z, hz, hqz⟩ := w3v (h (rs.getD i 0) (by rw [z2u rs i 0 hi]; exact List.getElem_mem hi))
   have hql : qs.length = i := by have := hq.1; rw [List.length_take] at this; omega
   rw [if_pos (by simpa using hi), if_pos (by omega), if_pos (by omega), Int.toNat_natCast, y6p rs i hi, hz, Option.bind_some, if_pos (by omega), e4]
   refine w6g rs hl h m (i + 1) _ (by omega) (by omega) ?_
   rw [List.take_succ_eq_append_getElem hi, <- z2u rs i 0 hi]
   exact wn1 hq hqz
  ·rw [if_neg (by simpa using hi)]
   rw [List.take_of_length_le (by omega)] at hq
   exact ⟨qs, rfl, hq⟩
theorem y2y (rs : List Rat) (hl : rs.length <= 1000000) (h : ∀ r, r ∈ rs -> OkR r) : ∃ qs, z2n fuel (rs.map rt) = some qs /\ QRs rs qs := by
 have hf := z7u (n := 2 ^ 100) (by decide)
 obtain ⟨qs, g, hq⟩ := w6g rs hl h fuel 0 [] (by omega) (by omega) ⟨rfl, fun i hi => by simp at hi⟩
 have g : z77 fuel (rs.map rt) (rs.length : Int) 0 [] = _ := g
 unfold z2n
 rw [List.length_map, g]
 exact ⟨qs, rfl, hq⟩
theorem w65 (rs : List Rat) (qs : List Qd) (h : QRs rs qs) {K : Nat} (hK : K <= 4194304) (hl : rs.length <= 1000000) (hd : ∀ i, i < rs.length -> Dr K (rs.getD i 0)) : ∀ (m i : Nat), i <= rs.length -> rs.length < m + i -> (∀ j, j < i -> OkR (rs.getD j 0)) ->
  ((∃ j, j < rs.length /\ ¬ OkR (rs.getD j 0)) /\ ∃ (e : Int) (d : _), e ≠ 0 /\ z5b m qs (qs.length : Int) (i : Int) ((rs.take i).map rt) = some (.ret (e, d))) \/
  ((∀ j, j < rs.length -> OkR (rs.getD j 0)) /\ z5b m qs (qs.length : Int) (i : Int) ((rs.take i).map rt) = some (.exit (rs.map rt, ())))
 | 0, i, h1, h2, _ => by omega
 | m + 1, i, h1, h2, h3 => by
  have hql := h.1
  simp only [z5b]
  by_cases hi : i < rs.length
  ·have e4 : IntKind.i64.wrap ((i : Int) + 1) = ((i + 1 : Nat) : Int) := by rw [w64 _ (by omega) (by omega)]; omega
   have hq := h.2 i hi
   have hdi := hd i hi
   have f1 := y0q hq hdi hK
   have f1 : z88 fuel ((qs.getD i (false, ([], []))).1, ((qs.getD i (false, ([], []))).2)) = _ := f1
   rw [if_pos (by simp; omega), if_pos (by omega), if_pos (by omega), Int.toNat_natCast, f1, Option.bind_some, e4]
   by_cases ho : OkR (rs.getD i 0)
   ·have f2 := w1g hq hdi hK
    have f2 : z7s fuel ((qs.getD i (false, ([], []))).1, ((qs.getD i (false, ([], []))).2)) = _ := f2
    rw [if_pos ho, if_neg (by decide), f2, Option.bind_some, if_pos (by rw [List.length_map, List.length_take]; omega)]
    have e : (rs.take i).map rt ++ [rt (rs.getD i 0)] = (rs.take (i + 1)).map rt := by
     rw [List.take_succ_eq_append_getElem hi, List.map_append, z2u rs i 0 hi]; rfl
    rw [e]
    refine w65 rs qs h hK hl hd m (i + 1) (by omega) (by omega) fun j hj => ?_
    by_cases ej : j = i
    ·rw [ej]; exact ho
    ·exact h3 j (by omega)
   ·rw [if_neg ho, if_pos (by decide)]
    exact .inl ⟨⟨i, hi, ho⟩, 2, _, by decide, rfl⟩
  ·rw [if_neg (by simp; omega), List.take_of_length_le (by omega)]
   exact .inr ⟨fun j hj => h3 j (by omega), rfl⟩
theorem yv8 {rs : List Rat} {qs : List Qd} (h : QRs rs qs) {K : Nat} (hK : K <= 4194304) (hl : rs.length <= 1000000) (hd : ∀ i, i < rs.length -> Dr K (rs.getD i 0)) :
  ((∃ j, j < rs.length /\ ¬ OkR (rs.getD j 0)) /\ ∃ e : Int, e ≠ 0 /\ z3d fuel qs = some ([], e)) \/ ((∀ j, j < rs.length -> OkR (rs.getD j 0)) /\ z3d fuel qs = some (rs.map rt, 0)) := by
 have hf := z7u (n := 2 ^ 100) (by decide)
 unfold z3d
 rcases w65 rs qs h hK hl hd fuel 0 (by omega) (by omega) (fun j hj => by omega) with ⟨hb, e, d, e0, g⟩ | ⟨ho, g⟩
 ·have g : z5b fuel qs (qs.length : Int) 0 [] = _ := g
  rw [g]; exact .inl ⟨hb, e, e0, rfl⟩
 ·have g : z5b fuel qs (qs.length : Int) 0 [] = _ := g
  rw [g]; exact .inr ⟨ho, rfl⟩
theorem y6i (l : List ByteArray) (hs : l.length <= 4611686018427387904) (hb : ∀ s, s ∈ l -> s.size <= 900000000000000) :
  (∃ e : Int, e ≠ 0 /\ z1g fuel l = some e) \/ (z1g fuel l = some 0 /\ l.length <= 40 /\ ∃ rs : List Rat, l = rs.map rt /\ ∀ r, r ∈ rs -> OkR r) := by
 unfold z1g
 by_cases h : l.length <= 40
 ·rw [if_neg (by rw [decide_eq_true_eq]; omega)]
  rcases y6h l hs hb with ⟨e, e0, g⟩ | ⟨rs, h1, h2, g⟩
  ·rw [g]; exact .inl ⟨e, e0, rfl⟩
  ·rw [g]; exact .inr ⟨rfl, h, rs, h1, h2⟩
 ·rw [if_pos (by rw [decide_eq_true_eq]; omega)]
  exact .inl ⟨2, by decide, rfl⟩
end Go.Proofs.YtcdcoeofhnfjdaaGreatDoor
namespace Go.Proofs.YtcdcoeofhnfjdaaGreatDoor
open Go Vm
def QF (n : Nat) (f : Nat -> Rat) (qs : List Qd) : Prop := qs.length = n /\ ∀ i, i < n -> QR (f i) (qs.getD i (false, ([], [])))
theorem QF.at {n : Nat} {f : Nat -> Rat} {qs : List Qd} (h : QF n f qs) {i : Nat} (hi : i < n) : QR (f i) ((qs.getD i (false, ([], []))).1, ((qs.getD i (false, ([], []))).2)) := h.2 i hi
theorem QF.ext {n : Nat} {f g : Nat -> Rat} {qs : List Qd} (h : QF n f qs) (e : ∀ i, i < n -> f i = g i) : QF n g qs := ⟨h.1, fun i hi => by rw [<- e i hi]; exact h.2 i hi⟩
theorem QF.set {n : Nat} {f : Nat -> Rat} {qs : List Qd} (h : QF n f qs) {i : Nat} (hi : i < n) {r : Rat} {q : Qd} (hr : QR r q) : QF n (fun j => if j = i then r else f j) (qs.set i q) := by
 refine ⟨by rw [List.length_set, h.1], fun j hj => ?_⟩
 show QR (if j = i then r else f j) _
 by_cases e : j = i
 ·rw [if_pos e, e, w0t _ _ _ _ (by rw [h.1]; exact hi)]; exact hr
 ·rw [if_neg e, z5a _ _ _ _ _ (fun x => e x.symm)]; exact h.2 j hj
theorem QF.of {rs : List Rat} {qs : List Qd} (h : QRs rs qs) : QF rs.length (fun i => rs.getD i 0) qs := ⟨h.1.symm, h.2⟩
theorem z5q {n i : Nat} {f : Nat -> Rat} (h : i < n) : ((List.range n).map f).getD i 0 = f i := by
 rw [List.getD_eq_getElem?_getD, List.getElem?_map, List.getElem?_range h]; rfl
theorem QF.list {n : Nat} {f : Nat -> Rat} {qs : List Qd} (h : QF n f qs) : QRs ((List.range n).map f) qs := by
 refine ⟨by rw [List.length_map, List.length_range, h.1], fun i hi => ?_⟩
 rw [List.length_map, List.length_range] at hi
 rw [z5q hi]
 exact h.2 i hi
theorem QF.rep (n : Nat) : QF n (fun _ => 0) (List.replicate n (false, ([], []))) := ⟨by simp, fun i _ => by rw [wl7]; exact zw8⟩
def fs (f : Nat -> Rat) : Nat -> Rat
 | 0 => 0
 | n + 1 => fs f n + f n
theorem z1k {f g : Nat -> Rat} : ∀ {n : Nat}, (∀ i, i < n -> f i = g i) -> fs f n = fs g n
 | 0, _ => rfl
 | n + 1, h => by rw [fs, fs, z1k fun i hi => h i (by omega), h n (by omega)]
theorem yp6 {f g : Nat -> Rat} : ∀ n : Nat, fs (fun i => f i + g i) n = fs f n + fs g n
 | 0 => by simp only [fs]; grind
 | n + 1 => by simp only [fs, yp6 n]; grind
theorem zi1 {f : Nat -> Rat} : ∀ {n : Nat}, (∀ i, i < n -> 0 <= f i) -> 0 <= fs f n
 | 0, _ => by simp only [fs]; exact Rat.le_refl
 | n + 1, h => by
  have h1 := zi1 (n := n) fun i hi => h i (by omega)
  have h2 := h n (by omega)
  rw [fs]; grind
theorem wv0 {f : Nat -> Rat} : ∀ {n i : Nat}, (∀ i, i < n -> 0 <= f i) -> i < n -> f i <= fs f n
 | 0, _, _, h => by omega
 | n + 1, i, h, hi => by
  rw [fs]
  have h2 := h n (by omega)
  by_cases e : i = n
  ·subst e
   have h1 := zi1 (n := i) fun j hj => h j (by omega)
   grind
  ·have h1 := wv0 (n := n) (fun j hj => h j (by omega)) (show i < n by omega)
   grind
theorem w9r {f : Nat -> Rat} {k : Nat} : ∀ {n : Nat}, (∀ i, i < n -> Dr k (f i)) -> Dr ((k + 1) * n + 1) (fs f n)
 | 0, _ => y58 (by omega)
 | n + 1, h => by
  have h1 := w9r (n := n) fun i hi => h i (by omega)
  have h2 := h n (by omega)
  refine z5o ?_ (w9q h1 h2)
  rw [Nat.mul_succ]; omega
theorem yq4 (f : Nat -> Rat) : ∀ n : Nat, psum ((List.range n).map f) = fs f n
 | 0 => rfl
 | n + 1 => by rw [List.range_succ, List.map_append, List.map_singleton, yi8, yq4 f n]; rfl
theorem yv6 {r : Rat} : r.num.sign <= 0 ↔ r <= 0 := by
 have h1 : r.num.sign <= 0 ↔ r.num <= 0 := by
  rcases Int.lt_trichotomy r.num 0 with h | h | h
  ·rw [Int.sign_eq_neg_one_of_neg h]; omega
  ·rw [h]; simp
  ·rw [Int.sign_eq_one_of_pos h]; omega
 rw [h1]
 have h2 := Rat.num_nonneg (q := -r)
 rw [Rat.neg_num] at h2
 constructor
 ·intro h
  have := h2.1 (by omega)
  grind
 ·intro h
  have := h2.2 (by grind)
  omega
end Go.Proofs.YtcdcoeofhnfjdaaGreatDoor
namespace Go.Proofs.YtcdcoeofhnfjdaaGreatDoor
open Go Vm
def Zd (D : Nat) (r : Rat) : Prop := ∃ z : Int, r = mkRat z D
theorem Zd.den (r : Rat) : Zd r.den r := ⟨r.num, (Rat.mkRat_self r).symm⟩
theorem Zd.mul {D E : Nat} {r s : Rat} : Zd D r -> Zd E s -> Zd (D * E) (r * s) := fun ⟨a, ha⟩ ⟨b, hb⟩ => ⟨a * b, by rw [ha, hb, Rat.mkRat_mul_mkRat]⟩
theorem Zd.more {D E : Nat} (hE : E ≠ 0) {r : Rat} : Zd D r -> Zd (D * E) r := fun ⟨a, ha⟩ => ⟨a * E, by rw [ha, Rat.mkRat_mul_right hE]⟩
theorem Zd.add {D : Nat} (hD : D ≠ 0) {r s : Rat} : Zd D r -> Zd D s -> Zd D (r + s) := fun ⟨a, ha⟩ ⟨b, hb⟩ => ⟨a + b, by
  rw [ha, hb, Rat.mkRat_add_mkRat _ _ hD hD, <- Int.add_mul, Rat.mkRat_mul_right hD]⟩
theorem Zd.zero {D : Nat} : Zd D 0 := ⟨0, (Rat.zero_mkRat D).symm⟩
theorem Zd.psum {D : Nat} (hD : D ≠ 0) : ∀ {l : List Rat}, (∀ r, r ∈ l -> Zd D r) -> Zd D (psum l)
 | [], _ => Zd.zero
 | a :: l, h => (h a (List.mem_cons_self ..)).add hD (Zd.psum hD fun r hr => h r (List.mem_cons_of_mem _ hr))
theorem Zd.le {D : Nat} (hD : D ≠ 0) {r : Rat} : Zd D r -> r.den <= D := fun ⟨a, ha⟩ => by
 rw [ha, Rat.den_mkRat, if_neg hD]; exact Nat.div_le_self _ _
theorem Zd.dr {D B k : Nat} (hD : D ≠ 0) (hB : 1 <= B) {r : Rat} (h : Zd D r) (h1 : r <= (B : Rat)) (h2 : -(B : Rat) <= r) (hk : B * D < 10 ^ k) : Dr k r := by
 have hd := h.le hD
 have a1 := (Rat.le_iff _ _).1 h1
 have a2 := (Rat.le_iff _ _).1 h2
 rw [Rat.num_natCast, Rat.den_natCast] at a1
 rw [Rat.neg_num, Rat.neg_den, Rat.num_natCast, Rat.den_natCast] at a2
 have hBd : B * r.den <= B * D := Nat.mul_le_mul_left _ hd
 have hD' : D <= B * D := Nat.le_mul_of_pos_left _ hB
 refine ⟨?_, by omega⟩
 have a3 : (B : Int) * (r.den : Int) = ((B * r.den : Nat) : Int) := by simp
 have a4 : -(B : Int) * (r.den : Int) = -((B * r.den : Nat) : Int) := by rw [Int.neg_mul, a3]
 rw [a3] at a1
 rw [a4] at a2
 omega
def Ab (B : Nat) (r : Rat) : Prop := r <= (B : Rat) /\ -(B : Rat) <= r
theorem y8e {a b : Nat} (h : a <= b) : (a : Rat) <= (b : Rat) := by
 rw [Rat.le_iff, Rat.num_natCast, Rat.num_natCast, Rat.den_natCast, Rat.den_natCast]
 omega
theorem Ab.mono {B B' : Nat} (h : B <= B') {r : Rat} (k : Ab B r) : Ab B' r := by
 have h1 := y8e h
 exact ⟨by have := k.1; grind, by have := k.2; grind⟩
theorem Ab.add {B B' : Nat} {r s : Rat} (h : Ab B r) (k : Ab B' s) : Ab (B + B') (r + s) := by
 obtain ⟨h1, h2⟩ := h
 obtain ⟨k1, k2⟩ := k
 constructor
 ·rw [Rat.natCast_add]; grind
 ·rw [Rat.natCast_add]; grind
theorem Ab.zero (B : Nat) : Ab B 0 := by
 have h := y8e (Nat.zero_le B)
 have e : ((0 : Nat) : Rat) = 0 := rfl
 rw [e] at h
 exact ⟨h, by grind⟩
theorem Ab.neg {B : Nat} {r : Rat} (h : Ab B r) : Ab B (-r) := by
 obtain ⟨h1, h2⟩ := h
 exact ⟨by grind, by grind⟩
theorem Ab.of_dr {k : Nat} {r : Rat} (h : Dr k r) : Ab (10 ^ k) r := by
 have hd : 1 <= r.den := Nat.pos_of_ne_zero r.den_nz
 have hle : 10 ^ k <= 10 ^ k * r.den := Nat.le_mul_of_pos_right _ hd
 have h1 := h.1
 constructor
 ·rw [Rat.le_iff, Rat.num_natCast, Rat.den_natCast]
  have : ((10 ^ k : Nat) : Int) * (r.den : Int) = ((10 ^ k * r.den : Nat) : Int) := by rw [Int.natCast_mul]
  rw [this]
  generalize 10 ^ k * r.den = X at *
  generalize 10 ^ k = Y at *
  omega
 ·rw [Rat.le_iff, Rat.neg_num, Rat.neg_den, Rat.num_natCast, Rat.den_natCast]
  have : -((10 ^ k : Nat) : Int) * (r.den : Int) = -((10 ^ k * r.den : Nat) : Int) := by rw [Int.neg_mul, Int.natCast_mul]
  rw [this]
  generalize 10 ^ k * r.den = X at *
  generalize 10 ^ k = Y at *
  omega
theorem Zd.neg {D : Nat} {r : Rat} : Zd D r -> Zd D (-r) := fun ⟨a, ha⟩ => ⟨-a, by rw [ha, Rat.neg_mkRat]⟩
end Go.Proofs.YtcdcoeofhnfjdaaGreatDoor
namespace Go.Proofs.YtcdcoeofhnfjdaaGreatDoor
open Go Vm
structure WM (a : List (List ByteArray)) : Prop where
 len : a.length <= 140737488351232
 row : ∀ x, x ∈ a -> x.length <= 140737488351232
 txt : ∀ x, x ∈ a -> ∀ s, s ∈ x -> s.size <= 900000000000000
theorem wf6 {a : List (List ByteArray)} {i : Nat} (h : i < a.length) : a.getD i [] ∈ a := by rw [z2u a i _ h]; exact List.getElem_mem h
def Txt (a : List (List ByteArray)) (R C : Nat) (M : Nat -> Nat -> Rat) : Prop := a.length = R /\ ∀ i, i < R -> a.getD i [] = ((List.range C).map (M i)).map rt /\ ∀ j, j < C -> OkR (M i j)
theorem ye8 {a : List (List ByteArray)} (ha : WM a) : ∀ (m i : Nat), i <= a.length -> a.length < m + i -> (∀ k, k < i -> (a.getD k []).length = (a.getD 0 []).length /\ (a.getD k []).length <= 40 /\ ∃ rs : List Rat, a.getD k [] = rs.map rt /\ ∀ r, r ∈ rs -> OkR r) ->
  (∃ (e : Int), e ≠ 0 /\ z2v m a a (a.length : Int) (i : Int) = some (.ret (e, ()))) \/
  ((∀ k, k < a.length -> (a.getD k []).length = (a.getD 0 []).length /\ (a.getD k []).length <= 40 /\ ∃ rs : List Rat, a.getD k [] = rs.map rt /\ ∀ r, r ∈ rs -> OkR r) /\ z2v m a a (a.length : Int) (i : Int) = some (.exit ()))
 | 0, i, h1, h2, _ => by omega
 | m + 1, i, h1, h2, h3 => by
  have hl := ha.len
  simp only [z2v]
  by_cases hi : i < a.length
  ·have e4 : IntKind.i64.wrap ((i : Int) + 1) = ((i + 1 : Nat) : Int) := by rw [w64 _ (by omega) (by omega)]; omega
   have hm := wf6 hi
   rw [if_pos (by simpa using hi), if_pos (by omega), if_pos (by omega), if_pos (by omega), Int.toNat_natCast, e4]
   by_cases c1 : (a.getD i []).length = (a.getD 0 []).length
   ·rw [if_neg (by rw [bne_iff_ne]; omega)]
    rcases y6i (a.getD i []) (Nat.le_trans (ha.row _ hm) (by decide)) (ha.txt _ hm) with ⟨e, e0, g⟩ | ⟨g, g40, grs⟩
    ·rw [g, Option.bind_some, if_pos (by simpa using e0)]
     exact .inl ⟨e, e0, rfl⟩
    ·rw [g, Option.bind_some, if_neg (by decide)]
     refine ye8 ha m (i + 1) (by omega) (by omega) fun k hk => ?_
     by_cases e : k = i
     ·rw [e]; exact ⟨c1, g40, grs⟩
     ·exact h3 k (by omega)
   ·rw [if_pos (by rw [bne_iff_ne]; omega)]
    exact .inl ⟨3, by decide, rfl⟩
  ·rw [if_neg (by simpa using hi)]
   exact .inr ⟨fun k hk => h3 k (by omega), rfl⟩
theorem w47 {a : List (List ByteArray)} (ha : WM a) : (∃ e : Int, e ≠ 0 /\ z4c fuel a = some e) \/
  (z4c fuel a = some 0 /\ a.length <= 40 /\ (a.getD 0 []).length <= 40 /\ ∃ M, Txt a a.length (a.getD 0 []).length M) := by
 have hf := z7u (n := 2 ^ 100) (by decide)
 have hl := ha.len
 unfold z4c
 by_cases h40 : a.length <= 40
 ·rw [if_neg (by rw [decide_eq_true_eq]; omega)]
  rcases ye8 ha fuel 0 (by omega) (by omega) (fun k hk => by omega) with ⟨e, e0, g⟩ | ⟨h, g⟩
  ·have g : z2v fuel a a (a.length : Int) 0 = _ := g
   rw [g]; exact .inl ⟨e, e0, rfl⟩
  ·have g : z2v fuel a a (a.length : Int) 0 = _ := g
   rw [g]
   refine .inr ⟨rfl, h40, ?_, ?_⟩
   ·by_cases h0 : 0 < a.length
    ·exact (h 0 h0).2.1
    ·have : a = [] := List.eq_nil_of_length_eq_zero (by omega)
     rw [this]; decide
   ·have h' : ∀ k, ∃ rs : List Rat, k < a.length -> a.getD k [] = rs.map rt /\ ∀ r, r ∈ rs -> OkR r := fun k => by
     by_cases hk : k < a.length
     ·obtain ⟨rs, h1, h2⟩ := (h k hk).2.2
      exact ⟨rs, fun _ => ⟨h1, h2⟩⟩
     ·exact ⟨[], fun h => absurd h hk⟩
    obtain ⟨F, hF⟩ := Classical.axiomOfChoice h'
    refine ⟨fun i j => (F i).getD j 0, rfl, fun i hi => ?_⟩
    obtain ⟨h1, h2⟩ := hF i hi
    have hlen : (F i).length = (a.getD 0 []).length := by
     have := (h i hi).1
     rw [h1, List.length_map] at this
     exact this
    refine ⟨?_, fun j hj => ?_⟩
    ·rw [h1]
     congr 1
     refine List.ext_getElem (by rw [hlen, List.length_map, List.length_range]) fun j g1 g2 => ?_
     rw [List.getElem_map, List.getElem_range]
     exact (z2u _ j 0 g1).symm
    ·refine h2 _ ?_
     show (F i).getD j 0 ∈ F i
     rw [z2u _ j 0 (by omega)]; exact List.getElem_mem _
 ·rw [if_pos (by rw [decide_eq_true_eq]; omega)]
  exact .inl ⟨2, by decide, rfl⟩
theorem w3u {a : List (List ByteArray)} (ha : WM a) : (∃ e : Int, e ≠ 0 /\ z2g fuel a = some e) \/
  (z2g fuel a = some 0 /\ ∃ R C M, 0 < R /\ R <= 12 /\ 0 < C /\ C <= 12 /\ (a.getD 0 []).length = C /\ Txt a R C M) := by
 unfold z2g
 by_cases h12 : a.length <= 12
 ·rw [if_neg (by rw [decide_eq_true_eq]; omega)]
  rcases w47 ha with ⟨e, e0, g⟩ | ⟨g, _, _, M, hM⟩
  ·rw [g, Option.bind_some, if_pos (by simpa using e0)]
   exact .inl ⟨e, e0, rfl⟩
  ·rw [g, Option.bind_some, if_neg (by decide)]
   unfold z65
   by_cases h0 : a.length = 0
   ·rw [if_pos (by rw [beq_iff_eq]; omega), Option.bind_some, if_pos (by decide)]
    exact .inl ⟨8, by decide, rfl⟩
   ·rw [if_neg (by rw [beq_iff_eq]; omega), if_pos (by omega), Option.bind_some]
    by_cases c0 : (a.getD 0 []).length = 0
    ·rw [if_pos (by rw [beq_iff_eq]; omega)]
     exact .inl ⟨8, by decide, rfl⟩
    ·rw [if_neg (by rw [beq_iff_eq]; omega), if_pos (by omega)]
     by_cases c12 : (a.getD 0 []).length <= 12
     ·rw [if_neg (by rw [decide_eq_true_eq]; omega)]
      exact .inr ⟨rfl, a.length, (a.getD 0 []).length, M, by omega, h12, by omega, c12, rfl, hM⟩
     ·rw [if_pos (by rw [decide_eq_true_eq]; omega)]
      exact .inl ⟨2, by decide, rfl⟩
 ·rw [if_pos (by rw [decide_eq_true_eq]; omega)]
  exact .inl ⟨2, by decide, rfl⟩
def QG (R C : Nat) (M : Nat -> Nat -> Rat) (g : List (List Qd)) : Prop := g.length = R /\ ∀ i, i < R -> QF C (M i) (g.getD i [])
theorem wb5 {a : List (List ByteArray)} {R C : Nat} {M : Nat -> Nat -> Rat} (h : Txt a R C M) (hR : R <= 100) (hC : C <= 100) : ∀ (m i : Nat) (g : List (List Qd)), i <= R -> R < m + i -> QG i C M g ->
  ∃ g', z8d m a (R : Int) (i : Int) g = some (.exit (g', ())) /\ QG R C M g'
 | 0, i, g, h1, h2, _ => by omega
 | m + 1, i, g, h1, h2, hg => by
  have hl := h.1
  simp only [z8d]
  by_cases hi : i < R
  ·have e4 : IntKind.i64.wrap ((i : Int) + 1) = ((i + 1 : Nat) : Int) := by rw [w64 _ (by omega) (by omega)]; omega
   obtain ⟨h3, h4⟩ := h.2 i hi
   obtain ⟨qs, gq, hq⟩ := y2y ((List.range C).map (M i)) (by rw [List.length_map, List.length_range]; omega) (fun r hr => by
     obtain ⟨j, hj, rfl⟩ := List.mem_map.1 hr
     exact h4 j (List.mem_range.1 hj))
   have hgl := hg.1
   rw [if_pos (by simpa using hi), if_pos (by omega), if_pos (by omega), Int.toNat_natCast, h3, gq, Option.bind_some, if_pos (by omega), e4]
   refine wb5 h hR hC m (i + 1) _ (by omega) (by omega) ⟨by rw [List.length_append, hgl]; rfl, fun k hk => ?_⟩
   by_cases e : k = i
   ·subst e
    rw [y6o hgl.symm]
    have := QF.of hq
    rw [List.length_map, List.length_range] at this
    exact this.ext fun j hj => z5q hj
   ·rw [y2e (by omega)]; exact hg.2 k (by omega)
  ·rw [if_neg (by simpa using hi)]
   have : i = R := by omega
   subst this
   exact ⟨g, rfl, hg⟩
theorem wb4 {a : List (List ByteArray)} {R C : Nat} {M : Nat -> Nat -> Rat} (h : Txt a R C M) (hR : R <= 100) (hC : C <= 100) : ∃ g, z64 fuel a = some g /\ QG R C M g := by
 have hf := z7u (n := 2 ^ 100) (by decide)
 obtain ⟨g, e, hg⟩ := wb5 h hR hC fuel 0 [] (by omega) (by omega) ⟨rfl, fun i hi => by omega⟩
 have e : z8d fuel a (R : Int) 0 [] = _ := e
 unfold z64
 rw [h.1, e]
 exact ⟨g, rfl, hg⟩
theorem v11 (l : List ByteArray) (hl : l.length <= 140737488351232) : ∀ (m i : Nat), i <= l.length -> l.length < m + i -> (∀ x, x ∈ l.take i -> x.size <= 12) ->
  (∃ k : Nat, z00 m l (l.length : Int) (i : Int) = some (.ret ((k : Int), ()))) \/
  ((∀ x, x ∈ l -> x.size <= 12) /\ z00 m l (l.length : Int) (i : Int) = some (.exit ()))
 | 0, i, h1, h2, _ => by omega
 | m + 1, i, h1, h2, h3 => by
  simp only [z00]
  by_cases hi : i < l.length
  ·have e4 : IntKind.i64.wrap ((i : Int) + 1) = ((i + 1 : Nat) : Int) := by rw [w64 _ (by omega) (by omega)]; omega
   rw [if_pos (by simpa using hi), if_pos (by omega), if_pos (by omega), Int.toNat_natCast, e4]
   by_cases c : (l.getD i ByteArray.empty).size <= 12
   ·rw [if_neg (by rw [decide_eq_true_eq]; omega)]
    refine v11 l hl m (i + 1) (by omega) (by omega) fun x hx => ?_
    rw [List.take_succ_eq_append_getElem hi, List.mem_append, List.mem_singleton] at hx
    rcases hx with hx | rfl
    ·exact h3 x hx
    ·rw [<- z2u l i ByteArray.empty hi]; exact c
   ·rw [if_pos (by rw [decide_eq_true_eq]; omega)]
    exact .inl ⟨i, rfl⟩
  ·rw [if_neg (by simpa using hi)]
   rw [List.take_of_length_le (by omega)] at h3
   exact .inr ⟨h3, rfl⟩
theorem wr6 {a : List (List ByteArray)} (ha : WM a) (n : Nat) : ∀ (m i : Nat), i <= a.length -> a.length + 140737488351300 < m + i -> (∀ k, k < i -> (a.getD k []).length <= n /\ ∀ x, x ∈ a.getD k [] -> x.size <= 12) ->
  (∃ (k : Nat) (d : _), z03 m a (a.length : Int) (i : Int) (n : Int) = some (.ret ((k : Int), d))) \/
  ((∀ k, k < a.length -> (a.getD k []).length <= n /\ ∀ x, x ∈ a.getD k [] -> x.size <= 12) /\ z03 m a (a.length : Int) (i : Int) (n : Int) = some (.exit ((n : Int), ())))
 | 0, i, h1, h2, _ => by omega
 | m + 1, i, h1, h2, h3 => by
  have hl := ha.len
  simp only [z03]
  by_cases hi : i < a.length
  ·have e4 : IntKind.i64.wrap ((i : Int) + 1) = ((i + 1 : Nat) : Int) := by rw [w64 _ (by omega) (by omega)]; omega
   have hm := wf6 hi
   have hrl := ha.row _ hm
   rw [if_pos (by simpa using hi), if_pos (by omega), if_pos (by omega), Int.toNat_natCast, e4]
   by_cases c1 : (a.getD i []).length <= n
   ·rw [if_pos (by rw [decide_eq_false_iff_not]; omega)]
    rcases v11 (a.getD i []) hrl m 0 (by omega) (by omega) (fun x hx => by simp at hx) with ⟨k, g⟩ | ⟨h, g⟩
    ·have g : z00 m (a.getD i []) ((a.getD i []).length : Int) 0 = _ := g
     rw [g]
     simp only
     rw [if_pos (decide_eq_true (show (k : Int) >= 0 by omega))]
     exact .inl ⟨i, _, rfl⟩
    ·have g : z00 m (a.getD i []) ((a.getD i []).length : Int) 0 = _ := g
     rw [g]
     refine wr6 ha n m (i + 1) (by omega) (by omega) fun k hk => ?_
     by_cases e : k = i
     ·rw [e]; exact ⟨c1, h⟩
     ·exact h3 k (by omega)
   ·rw [if_neg (by rw [decide_eq_false_iff_not]; omega)]
    exact .inl ⟨i, _, rfl⟩
  ·rw [if_neg (by simpa using hi)]
   exact .inr ⟨fun k hk => h3 k (by omega), rfl⟩
theorem v2d {a : List (List ByteArray)} (h : Wf (.slice (.slice .str)) a) : WM a := by
 obtain ⟨h1, h2⟩ := h
 have e : ∀ (n b : Nat), 1 <= b -> n * b <= 140737488351232 -> n <= 140737488351232 := fun n b hb h => Nat.le_trans (Nat.le_mul_of_pos_right n hb) h
 exact ⟨e _ _ (by decide) h1, fun x hx => e _ _ (by decide) (h2 x hx).1, fun x hx s hs => Nat.le_trans ((h2 x hx).2 s hs) (by decide)⟩
end Go.Proofs.YtcdcoeofhnfjdaaGreatDoor
namespace Go.Proofs.YtcdcoeofhnfjdaaGreatDoor
open Go Vm
def mt (R C : Nat) (M : Nat -> Nat -> Rat) : List (List ByteArray) := (List.range R).map fun i => ((List.range C).map (M i)).map rt
theorem yi3 (R C : Nat) (M : Nat -> Nat -> Rat) : (mt R C M).length = R := by unfold mt; rw [List.length_map, List.length_range]
theorem wq4 {R C : Nat} {M : Nat -> Nat -> Rat} {i : Nat} (h : i < R) : (mt R C M).getD i [] = ((List.range C).map (M i)).map rt := by
 unfold mt
 rw [List.getD_eq_getElem?_getD, List.getElem?_map, List.getElem?_range h]; rfl
theorem v17 {R C : Nat} {M : Nat -> Nat -> Rat} (h : ∀ i, i < R -> ∀ j, j < C -> OkR (M i j)) : Txt (mt R C M) R C M := ⟨yi3 R C M, fun i hi => ⟨wq4 hi, h i hi⟩⟩
theorem Txt.eq {a : List (List ByteArray)} {R C : Nat} {M : Nat -> Nat -> Rat} (h : Txt a R C M) : a = mt R C M := by
 refine List.ext_getElem (by rw [yi3]; exact h.1) fun i h1 h2 => ?_
 have hi : i < R := by rw [<- h.1]; exact h1
 have e1 := (h.2 i hi).1
 have e2 := wq4 (C := C) (M := M) hi
 rw [z2u a i [] h1] at e1
 rw [z2u _ i [] h2] at e2
 rw [e1, e2]
theorem w2c {a : List (List ByteArray)} {R C : Nat} {M : Nat -> Nat -> Rat} (h : Txt a R C M) (h0 : R = 0 -> C = 0) : z65 fuel a = some (C : Int) := by
 unfold z65
 have hl := h.1
 by_cases c : R = 0
 ·rw [if_pos (by rw [beq_iff_eq]; omega), h0 c]; rfl
 ·rw [if_neg (by rw [beq_iff_eq]; omega), if_pos (by omega), (h.2 0 (by omega)).1, List.length_map, List.length_map, List.length_range]
theorem w18 {a : List (List ByteArray)} {R C : Nat} {M : Nat -> Nat -> Rat} (h : Txt a R C M) (hR : R <= 40) (hC : C <= 40) : z4c fuel a = some 0 := by
 have key : ∀ (m i : Nat), i <= R -> R < m + i -> ∃ d, z2v m a a (R : Int) (i : Int) = some (.exit d) := by
  intro m
  induction m with
  | zero => intro i h1 h2; omega
  | succ m ih =>
   intro i h1 h2
   have hl := h.1
   simp only [z2v]
   by_cases hi : i < R
   ·have e4 : IntKind.i64.wrap ((i : Int) + 1) = ((i + 1 : Nat) : Int) := by rw [w64 _ (by omega) (by omega)]; omega
    obtain ⟨r1, r2⟩ := h.2 i hi
    have l1 : (a.getD i []).length = C := by rw [r1, List.length_map, List.length_map, List.length_range]
    have l0 : (a.getD 0 []).length = C := by rw [(h.2 0 (by omega)).1, List.length_map, List.length_map, List.length_range]
    rw [if_pos (by simpa using hi), if_pos (by omega), if_pos (by omega), if_pos (by omega), Int.toNat_natCast, e4, if_neg (by rw [bne_iff_ne]; omega), r1]
    rcases y6i (((List.range C).map (M i)).map rt) (by rw [List.length_map, List.length_map, List.length_range]; omega) (fun s hs => by
      obtain ⟨r, hr, rfl⟩ := List.mem_map.1 hs
      obtain ⟨j, hj, rfl⟩ := List.mem_map.1 hr
      exact w6h (r2 j (List.mem_range.1 hj))) with ⟨e, e0, g⟩ | ⟨g, _⟩
    ·exfalso
     unfold z1g at g
     rw [if_neg (by rw [decide_eq_true_eq, List.length_map, List.length_map, List.length_range]; omega)] at g
     rw [zo8 _ (by rw [List.length_map, List.length_range]; omega) (fun r hr => by
       obtain ⟨j, hj, rfl⟩ := List.mem_map.1 hr
       exact r2 j (List.mem_range.1 hj))] at g
     cases g; exact e0 rfl
    ·rw [g, Option.bind_some, if_neg (by decide)]
     exact ih (i + 1) (by omega) (by omega)
   ·rw [if_neg (by simpa using hi)]; exact ⟨_, rfl⟩
 have hf := z7u (n := 2 ^ 100) (by decide)
 obtain ⟨d, g⟩ := key fuel 0 (by omega) (by omega)
 have g : z2v fuel a a (R : Int) 0 = _ := g
 unfold z4c
 rw [h.1, if_neg (by rw [decide_eq_true_eq]; omega), g]
theorem y9k {n : Nat} (hn : n <= 40) {f g : Nat -> Rat} {a b : List Qd} (ha : QF n f a) (hb : QF n g b) (hf : ∀ i, i < n -> Dr 2000 (f i)) (hg : ∀ i, i < n -> Dr 2000 (g i)) : ∀ (m i : Nat) (q : Qd), i <= n -> n < m + i -> QR (fs (fun i => f i * g i) i) q ->
  ∃ q', z4p m b a (n : Int) (i : Int) q.1 q.2.1 q.2.2 = some (.exit (q'.1, q'.2.1, q'.2.2, ())) /\ QR (fs (fun i => f i * g i) n) q'
 | 0, i, q, h1, h2, _ => by omega
 | m + 1, i, q, h1, h2, hq => by
  have la := ha.1
  have lb := hb.1
  simp only [z4p]
  by_cases hi : i < n
  ·have e4 : IntKind.i64.wrap ((i : Int) + 1) = ((i + 1 : Nat) : Int) := by rw [w64 _ (by omega) (by omega)]; omega
   obtain ⟨y, hy, hqy⟩ := y5m (ha.at hi) (hb.at hi) (hf i hi) (hg i hi) (by omega)
   have hfs : Dr 170000 (fs (fun i => f i * g i) i) := z5o (by
     have : (4000 + 1) * i <= 4001 * 40 := Nat.mul_le_mul_left _ (by omega)
     omega) (w9r (k := 4000) (n := i) fun j hj => z5o (by omega) (y27 (hf j (by omega)) (hg j (by omega))))
   obtain ⟨x, hx, hqx⟩ := yw0 hq hqy hfs (y27 (hf i hi) (hg i hi)) (by omega)
   have hx : z5g fuel (q.1, (q.2.1, q.2.2)) y = some x := hx
   rw [if_pos (by simpa using hi), if_pos (by omega), if_pos (by omega), if_pos (by omega), if_pos (by omega), Int.toNat_natCast, hy, Option.bind_some, hx, Option.bind_some, e4]
   exact y9k hn ha hb hf hg m (i + 1) x (by omega) (by omega) hqx
  ·rw [if_neg (by simpa using hi)]
   have : i = n := by omega
   subst this
   exact ⟨q, rfl, hq⟩
theorem y8h {n : Nat} (hn : n <= 40) {f g : Nat -> Rat} {a b : List Qd} (ha : QF n f a) (hb : QF n g b) (hf : ∀ i, i < n -> Dr 2000 (f i)) (hg : ∀ i, i < n -> Dr 2000 (g i)) : ∃ q, z6y fuel a b = some q /\ QR (fs (fun i => f i * g i) n) q := by
 have hfu := z7u (n := 2 ^ 100) (by decide)
 obtain ⟨q, h1, h2⟩ := y9k hn ha hb hf hg fuel 0 (false, [], []) (by omega) (by omega) zw8
 have h1 : z4p fuel b a (n : Int) 0 false [] [] = _ := h1
 unfold z6y
 rw [ha.1, h1]
 exact ⟨_, rfl, h2⟩
end Go.Proofs.YtcdcoeofhnfjdaaGreatDoor
namespace Go.Proofs.YtcdcoeofhnfjdaaGreatDoor
open Go Vm
theorem yu7 {α : Type} (l : List (List α)) (k : Nat) (x : List α) (h : k < l.length) : (l.set k x).getD k [] = x := by
 rw [List.getD_eq_getElem?_getD, List.getElem?_set_self h]; rfl
theorem ym1 {α : Type} (l : List (List α)) {k j : Nat} (x : List α) (h : j ≠ k) : (l.set k x).getD j [] = l.getD j [] := by
 rw [List.getD_eq_getElem?_getD, List.getElem?_set_ne (fun e => h e.symm), <- List.getD_eq_getElem?_getD]
theorem QF.snoc {n : Nat} {f : Nat -> Rat} {qs : List Qd} (h : QF n f qs) {q : Qd} (hq : QR (f n) q) : QF (n + 1) f (qs ++ [q]) := by
 refine ⟨by rw [List.length_append, h.1]; rfl, fun i hi => ?_⟩
 by_cases e : i = n
 ·rw [e, y6o h.1.symm]; exact hq
 ·rw [y2e (by rw [h.1]; omega)]; exact h.2 i (by omega)
def TI (C i c : Nat) (M : Nat -> Nat -> Rat) (b : List (List Qd)) : Prop := b.length = C /\ ∀ k, k < C -> QF (if k < c then i + 1 else i) (fun j => M j k) (b.getD k [])
def pr (A B : Nat -> Nat -> Rat) (n : Nat) (i k : Nat) : Rat := fs (fun j => A i j * B j k) n
theorem QG.snoc {R C : Nat} {M : Nat -> Nat -> Rat} {g : List (List Qd)} (h : QG R C M g) {r : List Qd} (hr : QF C (M R) r) : QG (R + 1) C M (g ++ [r]) := by
 refine ⟨by rw [List.length_append, h.1]; rfl, fun i hi => ?_⟩
 by_cases e : i = R
 ·rw [e, y6o h.1.symm]; exact hr
 ·rw [y2e (by rw [h.1]; omega)]; exact h.2 i (by omega)
theorem yi6 {R K : Nat} (hR : R <= 100) (hK : K <= 100) {M : Nat -> Nat -> Rat} {g : List (List Qd)} (hg : QG R K M g) (hd : ∀ i, i < R -> ∀ k, k < K -> Dr 170000 (M i k)) : ∀ (m i : Nat), i <= R -> R < m + i -> (∀ i', i' < i -> ∀ k, k < K -> OkR (M i' k)) ->
  ((∃ i k, i < R /\ k < K /\ ¬ OkR (M i k)) /\ ∃ (e : Int) (d : _), e ≠ 0 /\ z3e m g (R : Int) (i : Int) (mt i K M) = some (.ret (e, d))) \/
  ((∀ i, i < R -> ∀ k, k < K -> OkR (M i k)) /\ z3e m g (R : Int) (i : Int) (mt i K M) = some (.exit (mt R K M, ())))
 | 0, i, h1, h2, _ => by omega
 | m + 1, i, h1, h2, h3 => by
  have lg := hg.1
  simp only [z3e]
  by_cases hi : i < R
  ·have e4 : IntKind.i64.wrap ((i : Int) + 1) = ((i + 1 : Nat) : Int) := by rw [w64 _ (by omega) (by omega)]; omega
   have hl : ((List.range K).map (M i)).length = K := by rw [List.length_map, List.length_range]
   rw [if_pos (by simpa using hi), if_pos (by omega), if_pos (by omega), Int.toNat_natCast]
   rcases yv8 (hg.2 i hi).list (K := 170000) (by omega) (by omega) (fun k hk => by rw [hl] at hk; rw [z5q hk]; exact hd i hi k hk) with ⟨⟨k, hk, hn⟩, e, e0, g1⟩ | ⟨hok, g1⟩
   ·rw [hl] at hk
    rw [z5q hk] at hn
    rw [g1, Option.bind_some, if_pos (by simpa using e0)]
    exact .inl ⟨⟨i, k, hi, hk, hn⟩, e, _, e0, rfl⟩
   ·rw [g1, Option.bind_some, if_neg (by simp), if_pos (by rw [yi3]; omega), e4]
    have e : mt i K M ++ [((List.range K).map (M i)).map rt] = mt (i + 1) K M := by unfold mt; rw [List.range_succ, List.map_append]; rfl
    rw [e]
    refine yi6 hR hK hg hd m (i + 1) (by omega) (by omega) fun i' hi' k hk => ?_
    by_cases e : i' = i
    ·subst e
     have := hok k (by rw [hl]; exact hk)
     rw [z5q hk] at this; exact this
    ·exact h3 i' (by omega) k hk
  ·rw [if_neg (by simpa using hi)]
   have : i = R := by omega
   subst this
   exact .inr ⟨h3, rfl⟩
theorem we6 {R K : Nat} (hR : R <= 100) (hK : K <= 100) {M : Nat -> Nat -> Rat} {g : List (List Qd)} (hg : QG R K M g) (hd : ∀ i, i < R -> ∀ k, k < K -> Dr 170000 (M i k)) :
  ((∃ i k, i < R /\ k < K /\ ¬ OkR (M i k)) /\ ∃ e : Int, e ≠ 0 /\ z6e fuel g = some ([], e)) \/ ((∀ i, i < R -> ∀ k, k < K -> OkR (M i k)) /\ z6e fuel g = some (mt R K M, 0)) := by
 have hf := z7u (n := 2 ^ 100) (by decide)
 unfold z6e
 rw [hg.1]
 rcases yi6 hR hK hg hd fuel 0 (by omega) (by omega) (fun i' hi' => by omega) with ⟨h, e, d, e0, g1⟩ | ⟨h, g1⟩
 ·have g1 : z3e fuel g (R : Int) 0 [] = _ := g1
  rw [g1]; exact .inl ⟨h, e, e0, rfl⟩
 ·have g1 : z3e fuel g (R : Int) 0 [] = _ := g1
  rw [g1]; exact .inr ⟨h, rfl⟩
theorem v1y {A B : Nat -> Nat -> Rat} {R n K : Nat} (hn : n <= 40) (hA : ∀ i, i < R -> ∀ j, j < n -> Dr 2000 (A i j)) (hB : ∀ j, j < n -> ∀ k, k < K -> Dr 2000 (B j k)) : ∀ i, i < R -> ∀ k, k < K -> Dr 170000 (pr A B n i k) := fun i hi k hk => z5o (by
  have : (4000 + 1) * n <= 4001 * 40 := Nat.mul_le_mul_left _ hn
  omega) (w9r (k := 4000) fun j hj => z5o (by omega) (y27 (hA i hi j hj) (hB j hj k hk)))
end Go.Proofs.YtcdcoeofhnfjdaaGreatDoor
namespace Go.Proofs.YtcdcoeofhnfjdaaGreatDoor
open Go Vm
theorem zf6 (f : Nat -> Rat) (s : Rat) : ∀ n : Nat, fs (fun i => f i * s) n = fs f n * s
 | 0 => by simp only [fs]; grind
 | n + 1 => by rw [fs, fs, zf6 f s n]; grind
theorem zc6 (f : Nat -> Rat) (s : Rat) : ∀ n : Nat, fs (fun i => s * f i) n = s * fs f n
 | 0 => by simp only [fs]; grind
 | n + 1 => by rw [fs, fs, zc6 f s n]; grind
theorem z4k : ∀ n : Nat, fs (fun _ => 0) n = 0
 | 0 => rfl
 | n + 1 => by rw [fs, z4k n]; grind
theorem y88 (f : Nat -> Nat -> Rat) (m : Nat) : ∀ n : Nat, fs (fun i => fs (f i) m) n = fs (fun j => fs (fun i => f i j) n) m
 | 0 => by simp only [fs]; rw [z4k]
 | n + 1 => by
  rw [fs, y88 f m n, <- yp6]
  rfl
def Sm (n : Nat) (a : List (List ByteArray)) : Prop := a.length <= n /\ ∀ k, k < a.length -> (a.getD k []).length <= n /\ ∀ x, x ∈ a.getD k [] -> x.size <= 12
theorem yq9 {l : List (List (List ByteArray))} (hl : l.length <= 10) (hw : ∀ a, a ∈ l -> WM a) (n : Nat) : ∀ (m i : Nat), i <= l.length -> 2 ^ 60 < m + i -> (∀ a, a ∈ l.take i -> Sm n a) ->
  ∃ r : Bool, (match z39 m l (l.length : Int) (i : Int) (n : Int) with
    | none => none
    | some (.exit _) => some true
    | some (.ret d) => some d.1) = some r /\ (r = true -> ∀ a, a ∈ l -> Sm n a)
 | 0, i, h1, h2, _ => by omega
 | m + 1, i, h1, h2, h3 => by
  simp only [z39]
  by_cases hi : i < l.length
  ·have e4 : IntKind.i64.wrap ((i : Int) + 1) = ((i + 1 : Nat) : Int) := by rw [w64 _ (by omega) (by omega)]; omega
   have hmem : l.getD i [] ∈ l := by rw [z2u l i [] hi]; exact List.getElem_mem hi
   have ha := hw _ hmem
   have hla := ha.len
   rw [if_pos (by simpa using hi), if_pos (by omega), if_pos (by omega), Int.toNat_natCast, e4]
   by_cases c1 : (l.getD i []).length <= n
   ·rw [if_pos (by rw [decide_eq_false_iff_not]; omega)]
    rcases wr6 ha n m 0 (by omega) (by omega) (fun k hk => by omega) with ⟨k, d, g⟩ | ⟨h, g⟩
    ·have g : z03 m (l.getD i []) ((l.getD i []).length : Int) 0 (n : Int) = _ := g
     rw [g]
     simp only
     rw [if_pos (decide_eq_true (show (k : Int) >= 0 by omega))]
     exact ⟨false, rfl, fun h => by cases h⟩
    ·have g : z03 m (l.getD i []) ((l.getD i []).length : Int) 0 (n : Int) = _ := g
     rw [g]
     simp only
     refine yq9 hl hw n m (i + 1) (by omega) (by omega) fun a hm => ?_
     rw [List.take_succ_eq_append_getElem hi, List.mem_append, List.mem_singleton] at hm
     rcases hm with hm | rfl
     ·exact h3 a hm
     ·rw [<- z2u l i [] hi]; exact ⟨c1, h⟩
   ·rw [if_neg (by rw [decide_eq_false_iff_not]; omega)]
    exact ⟨false, rfl, fun h => by cases h⟩
  ·rw [if_neg (by simpa using hi)]
   rw [List.take_of_length_le (by omega)] at h3
   exact ⟨true, rfl, fun _ => h3⟩
theorem w8d {l : List (List (List ByteArray))} (hl : l.length <= 10) (hw : ∀ a, a ∈ l -> WM a) (n : Nat) : ∃ r : Bool, z4i fuel (n : Int) l = some r /\ (r = true -> ∀ a, a ∈ l -> Sm n a) := by
 have hf := z7u (n := 2 ^ 100) (by decide)
 obtain ⟨r, h1, h2⟩ := yq9 hl hw n fuel 0 (by omega) (by omega) (fun a ha => by simp at ha)
 unfold z4i
 exact ⟨r, h1, h2⟩
end Go.Proofs.YtcdcoeofhnfjdaaGreatDoor
namespace Go.Proofs.YtcdcoeofhnfjdaaGreatDoor
open Go Vm
theorem yo7 {R n : Nat} (hR : R <= 100) (hn : n <= 40) {M : Nat -> Nat -> Rat} {V : Nat -> Rat} {g : List (List Qd)} {x : List Qd} (hg : QG R n M g) (hx : QF n V x) (hM : ∀ i, i < R -> ∀ j, j < n -> Dr 2000 (M i j)) (hV : ∀ j, j < n -> Dr 2000 (V j)) :
  ∀ (m i : Nat) (out : List Qd), i <= R -> R < m + i -> QF i (fun i => fs (fun j => M i j * V j) n) out -> ∃ out', z48 m x (R : Int) (i : Int) out g = some (.exit (out', g, ())) /\ QF R (fun i => fs (fun j => M i j * V j) n) out'
 | 0, i, out, h1, h2, _ => by omega
 | m + 1, i, out, h1, h2, ho => by
  have lg := hg.1
  have lo := ho.1
  simp only [z48]
  by_cases hi : i < R
  ·have e4 : IntKind.i64.wrap ((i : Int) + 1) = ((i + 1 : Nat) : Int) := by rw [w64 _ (by omega) (by omega)]; omega
   obtain ⟨q, h3, h4⟩ := y8h hn (hg.2 i hi) hx (hM i hi) hV
   rw [if_pos (by simpa using hi), if_pos (by omega), if_pos (by omega), Int.toNat_natCast, h3, Option.bind_some, if_pos (by omega), e4]
   exact yo7 hR hn hg hx hM hV m (i + 1) _ (by omega) (by omega) (ho.snoc h4)
  ·rw [if_neg (by simpa using hi)]
   have : i = R := by omega
   subst this
   exact ⟨out, rfl, ho⟩
theorem wi9 {a : List (List ByteArray)} {R n : Nat} {M : Nat -> Nat -> Rat} (ha : Txt a R n M) (hR : R <= 40) (hn : n <= 40) (h0 : 0 < R) {vs : List Rat} (hv : vs.length = n) (hvo : ∀ r, r ∈ vs -> OkR r) :
  ((∃ i, i < R /\ ¬ OkR (fs (fun j => M i j * vs.getD j 0) n)) /\ ∃ e : Int, e ≠ 0 /\ z98 fuel a (vs.map rt) = some ([], e)) \/
  ((∀ i, i < R -> OkR (fs (fun j => M i j * vs.getD j 0) n)) /\ z98 fuel a (vs.map rt) = some (((List.range R).map fun i => fs (fun j => M i j * vs.getD j 0) n).map rt, 0)) := by
 have hf := z7u (n := 2 ^ 100) (by decide)
 have hM : ∀ i, i < R -> ∀ j, j < n -> Dr 2000 (M i j) := fun i hi j hj => zl8 ((ha.2 i hi).2 j hj)
 have hV : ∀ j, j < n -> Dr 2000 (vs.getD j 0) := fun j hj => zl8 (hvo _ (by rw [z2u vs j 0 (by omega)]; exact List.getElem_mem _))
 obtain ⟨qs, r1, r2⟩ := y2y vs (by omega) hvo
 have r3 := QF.of r2
 rw [hv] at r3
 obtain ⟨g, g1, g2⟩ := wb4 ha (by omega) (by omega)
 obtain ⟨out, o1, o2⟩ := yo7 (by omega) hn g2 r3 hM hV fuel 0 [] (by omega) (by omega) ⟨rfl, fun i hi => by omega⟩
 have o1 : z48 fuel qs (R : Int) 0 [] g = _ := o1
 have hcv : z1g fuel (vs.map rt) = some 0 := by
  unfold z1g
  rw [if_neg (by rw [decide_eq_true_eq, List.length_map]; omega), zo8 _ (by omega) hvo, Option.bind_some]
 unfold z98
 rw [w18 ha hR hn, Option.bind_some, if_neg (by decide), hcv, Option.bind_some, if_neg (by decide), w2c ha (by omega), Option.bind_some, if_neg (by rw [bne_iff_ne, List.length_map, hv]; simp), r1, Option.bind_some, g1, Option.bind_some, g2.1, o1]
 simp only
 have hl : ((List.range R).map fun i => fs (fun j => M i j * vs.getD j 0) n).length = R := by rw [List.length_map, List.length_range]
 rcases yv8 o2.list (K := 170000) (by omega) (by omega) (fun i hi => by
     rw [hl] at hi
     rw [z5q hi]
     exact v1y (B := fun j _ => vs.getD j 0) (K := 1) hn hM (fun j hj _ _ => hV j hj) i hi 0 (by decide)) with ⟨⟨i, hi, hn'⟩, e, e0, g3⟩ | ⟨hok, g3⟩
 ·rw [hl] at hi
  rw [z5q hi] at hn'
  rw [g3]; exact .inl ⟨⟨i, hi, hn'⟩, e, e0, rfl⟩
 ·rw [g3]
  refine .inr ⟨fun i hi => ?_, rfl⟩
  have := hok i (by rw [hl]; exact hi)
  rw [z5q hi] at this
  exact this
end Go.Proofs.YtcdcoeofhnfjdaaGreatDoor
namespace Go.Proofs.YtcdcoeofhnfjdaaGreatDoor
open Go Vm
def mi (j k : Nat) : Nat := if k < j then k else k + 1
def sg (j : Nat) : Rat := if j % 2 = 0 then 1 else -1
theorem wx6 (j : Nat) : sg (j + 1) = - sg j := by
 unfold sg
 by_cases h : j % 2 = 0
 ·rw [if_pos h, if_neg (by omega)]
 ·rw [if_neg h, if_pos (by omega)]; grind
def det : Nat -> (Nat -> Nat -> Rat) -> Rat
 | 0, _ => 1
 | n + 1, M => fs (fun j => sg j * M 0 j * det n fun i k => M (i + 1) (mi j k)) (n + 1)
def upd (c : Nat) (v : Nat -> Rat) (M : Nat -> Nat -> Rat) (i k : Nat) : Rat := if k = c then v i else M i k
theorem v0s {j k n : Nat} (h : k < n) : mi j k < n + 1 := by unfold mi; split <;> omega
theorem y81 : ∀ {n : Nat} {M M' : Nat -> Nat -> Rat}, (∀ i, i < n -> ∀ k, k < n -> M i k = M' i k) -> det n M = det n M'
 | 0, _, _, _ => rfl
 | n + 1, M, M', h => z1k fun j hj => by
  rw [h 0 (by omega) j hj, y81 fun i hi k hk => h (i + 1) (by omega) (mi j k) (v0s hk)]
def dn (j c : Nat) : Nat := if c < j then c else c - 1
theorem v0r {j c k : Nat} (h : c ≠ j) : mi j k = c ↔ k = dn j c := by
 unfold mi dn
 by_cases h1 : k < j <;> by_cases h2 : c < j
 ·rw [if_pos h1, if_pos h2]
 ·rw [if_pos h1, if_neg h2]; omega
 ·rw [if_neg h1, if_pos h2]; omega
 ·rw [if_neg h1, if_neg h2]; omega
theorem v1w (j k : Nat) : mi j k ≠ j := by unfold mi; split <;> omega
theorem v1s {j c n : Nat} (h : c ≠ j) (hc : c < n + 1) (hj : j < n + 1) : dn j c < n := by unfold dn; split <;> omega
theorem yi0 {j c : Nat} (h : c ≠ j) (v : Nat -> Rat) (M : Nat -> Nat -> Rat) : (fun i k => upd c v M (i + 1) (mi j k)) = upd (dn j c) (fun i => v (i + 1)) fun i k => M (i + 1) (mi j k) := by
 funext i k
 unfold upd
 by_cases e : mi j k = c
 ·rw [if_pos e, if_pos ((v0r h).1 e)]
 ·rw [if_neg e, if_neg fun e' => e ((v0r h).2 e')]
theorem zw7 (c : Nat) (v : Nat -> Rat) (M : Nat -> Nat -> Rat) : (fun i k => upd c v M (i + 1) (mi c k)) = fun i k => M (i + 1) (mi c k) := by
 funext i k
 unfold upd
 rw [if_neg (v1w c k)]
theorem zw2 : ∀ {n c : Nat}, c < n -> ∀ (a b : Rat) (u v : Nat -> Rat) (M : Nat -> Nat -> Rat), det n (upd c (fun i => a * u i + b * v i) M) = a * det n (upd c u M) + b * det n (upd c v M)
 | 0, _, h, _, _, _, _, _ => by omega
 | n + 1, c, hc, a, b, u, v, M => by
  show fs _ (n + 1) = a * fs _ (n + 1) + b * fs _ (n + 1)
  rw [<- zc6, <- zc6, <- yp6]
  refine z1k fun j hj => ?_
  by_cases e : c = j
  ·subst e
   rw [zw7, zw7, zw7]
   have h1 : ∀ w : Nat -> Rat, upd c w M 0 c = w 0 := fun w => if_pos rfl
   rw [h1, h1, h1]; grind
  ·rw [yi0 e, yi0 e, yi0 e]
   have h1 : ∀ w : Nat -> Rat, upd c w M 0 j = M 0 j := fun w => if_neg fun h => e h.symm
   rw [h1, h1, h1, zw2 (v1s e hc hj) a b (fun i => u (i + 1)) (fun i => v (i + 1))]; grind
theorem wp6 {f : Nat -> Rat} {c : Nat} : ∀ {n : Nat}, c + 1 < n -> (∀ j, j < n -> j ≠ c -> j ≠ c + 1 -> f j = 0) -> f c + f (c + 1) = 0 -> fs f n = 0
 | 0, h, _, _ => by omega
 | n + 1, h, h0, h2 => by
  rw [fs]
  by_cases e : n = c + 1
  ·subst e
   rw [fs]
   have : fs f c = 0 := by rw [z1k (g := fun _ => 0) fun j hj => h0 j (by omega) (by omega) (by omega), z4k]
   rw [this]; grind
  ·rw [wp6 (by omega) (fun j hj => h0 j (by omega)) h2, h0 n (by omega) (by omega) e]; grind
theorem yu0 : ∀ {n c : Nat}, c + 1 < n -> ∀ {M : Nat -> Nat -> Rat}, (∀ i, i < n -> M i c = M i (c + 1)) -> det n M = 0
 | 0, _, h, _, _ => by omega
 | n + 1, c, hc, M, h => by
  refine wp6 (c := c) hc (fun j hj h1 h2 => ?_) ?_
  ·have h0 : det n (fun i k => M (i + 1) (mi j k)) = 0 := by
    by_cases hj2 : j < c
    ·refine yu0 (c := c - 1) (by omega) fun i hi => ?_
     have e1 : mi j (c - 1) = c := by unfold mi; rw [if_neg (by omega)]; omega
     have e2 : mi j (c - 1 + 1) = c + 1 := by unfold mi; rw [if_neg (by omega)]; omega
     rw [e1, e2]; exact h (i + 1) (by omega)
    ·refine yu0 (c := c) (by omega) fun i hi => ?_
     have e1 : mi j c = c := by unfold mi; rw [if_pos (by omega)]
     have e2 : mi j (c + 1) = c + 1 := by unfold mi; rw [if_pos (by omega)]
     rw [e1, e2]; exact h (i + 1) (by omega)
   rw [h0, Rat.mul_zero]
  ·have e : det n (fun i k => M (i + 1) (mi (c + 1) k)) = det n (fun i k => M (i + 1) (mi c k)) := y81 fun i hi k hk => by
    by_cases hk1 : k = c
    ·subst hk1
     have e1 : mi (k + 1) k = k := by unfold mi; rw [if_pos (by omega)]
     have e2 : mi k k = k + 1 := by unfold mi; rw [if_neg (by omega)]
     rw [e1, e2]; exact h (i + 1) (by omega)
    ·have : mi (c + 1) k = mi c k := by
      unfold mi
      by_cases h3 : k < c
      ·rw [if_pos h3, if_pos (by omega)]
      ·rw [if_neg h3, if_neg (by omega)]
     rw [this]
   rw [e, wx6, h 0 (by omega)]; grind
theorem wj8 {n c : Nat} (hc : c + 1 < n) (u v : Nat -> Rat) (M : Nat -> Nat -> Rat) : det n (upd c u (upd (c + 1) v M)) = - det n (upd c v (upd (c + 1) u M)) := by
 have comm : ∀ (x y : Nat -> Rat), upd c x (upd (c + 1) y M) = upd (c + 1) y (upd c x M) := fun x y => by
  funext i k
  unfold upd
  by_cases e1 : k = c
  ·rw [if_pos e1, if_neg (by omega), if_pos e1]
  ·rw [if_neg e1]
   by_cases e2 : k = c + 1
   ·rw [if_pos e2, if_pos e2]
   ·rw [if_neg e2, if_neg e2, if_neg e1]
 have same : ∀ x : Nat -> Rat, det n (upd c x (upd (c + 1) x M)) = 0 := fun x => yu0 hc fun i _ => by
  unfold upd
  rw [if_pos rfl, if_neg (by omega), if_pos rfl]
 have h1 := same fun i => 1 * u i + 1 * v i
 rw [zw2 (by omega), comm, comm, zw2 hc, zw2 hc, <- comm, <- comm, <- comm, <- comm, same, same] at h1
 grind
theorem y0x (c : Nat) (M : Nat -> Nat -> Rat) : upd c (fun i => M i c) M = M := by
 funext i k
 unfold upd
 by_cases e : k = c
 ·rw [if_pos e, e]
 ·rw [if_neg e]
theorem w9n : ∀ {n : Nat} (g : Nat) {c d : Nat}, d = c + g + 1 -> d < n -> ∀ {M : Nat -> Nat -> Rat}, (∀ i, i < n -> M i c = M i d) -> det n M = 0
 | n, 0, c, d, hd, hn, M, h => by
  subst hd
  exact yu0 hn h
 | n, g + 1, c, d, hd, hn, M, h => by
  obtain ⟨e, rfl⟩ : ∃ e, d = e + 1 := ⟨c + (g + 1), by omega⟩
  have h1 := wj8 (c := e) hn (fun i => M i e) (fun i => M i (e + 1)) M
  rw [y0x (e + 1) M, y0x e M] at h1
  have h2 : det n (upd e (fun i => M i (e + 1)) (upd (e + 1) (fun i => M i e) M)) = 0 := w9n g (c := c) (d := e) (by omega) (by omega) fun i hi => by
   unfold upd
   rw [if_neg (by omega), if_neg (by omega), if_pos rfl]
   exact h i hi
  rw [h1, h2]; grind
theorem yu1 {n c d : Nat} (hc : c < n) (hd : d < n) (hne : c ≠ d) {M : Nat -> Nat -> Rat} (h : ∀ i, i < n -> M i c = M i d) : det n M = 0 := by
 rcases Nat.lt_or_gt_of_ne hne with h1 | h1
 ·exact w9n (d - c - 1) (by omega) hd h
 ·exact w9n (c - d - 1) (by omega) hc fun i hi => (h i hi).symm
theorem w9p {n c : Nat} (hc : c < n) (M : Nat -> Nat -> Rat) (x : Nat -> Rat) : ∀ m : Nat, m <= n -> det n (upd c (fun i => fs (fun j => M i j * x j) m) M) = fs (fun j => if j = c then x c * det n M else 0) m
 | 0, _ => by
  have h := zw2 hc 0 0 (fun _ => 0) (fun _ => 0) M
  have e : (fun i : Nat => (0 : Rat) * (fun _ => 0) i + 0 * (fun _ => 0) i) = fun i => fs (fun j => M i j * x j) 0 := by funext i; simp only [fs]; grind
  rw [e] at h
  rw [h]; simp only [fs]; grind
 | m + 1, hm => by
  have e : (fun i => fs (fun j => M i j * x j) (m + 1)) = fun i => 1 * (fun i => fs (fun j => M i j * x j) m) i + x m * (fun i => M i m) i := by funext i; simp only [fs]; grind
  rw [e, zw2 hc, w9p hc M x m (by omega), fs]
  by_cases h : m = c
  ·subst h
   rw [y0x, if_pos rfl]; grind
  ·have : det n (upd c (fun i => M i m) M) = 0 := yu1 hc (show m < n by omega) (fun e => h e.symm) fun i _ => by
    unfold upd
    rw [if_pos rfl, if_neg h]
   rw [this, if_neg h]; grind
theorem wb0 {c : Nat} {v : Rat} : ∀ {n : Nat}, fs (fun j => if j = c then v else 0) n = if c < n then v else 0
 | 0 => by simp [fs]
 | n + 1 => by
  rw [fs, wb0]
  by_cases h : n = c
  ·subst h; rw [if_neg (by omega), if_pos rfl, if_pos (by omega)]; grind
  ·rw [if_neg h]
   by_cases h2 : c < n
   ·rw [if_pos h2, if_pos (by omega)]; grind
   ·rw [if_neg h2, if_neg (by omega)]; grind
theorem w9i {n c : Nat} (hc : c < n) {M : Nat -> Nat -> Rat} {x b : Nat -> Rat} (h : ∀ i, i < n -> fs (fun j => M i j * x j) n = b i) : det n (upd c b M) = x c * det n M := by
 have e : det n (upd c b M) = det n (upd c (fun i => fs (fun j => M i j * x j) n) M) := y81 fun i hi k _ => by
  unfold upd
  split
  ·exact (h i hi).symm
  ·rfl
 rw [e, w9p hc M x n (Nat.le_refl _), wb0, if_pos hc]
end Go.Proofs.YtcdcoeofhnfjdaaGreatDoor
