/- What the division of digits computes: quotient and remainder; the y7i common divisor. -/
import Derived.Test.YtcdcoeofhnfjdaaDoorNd
namespace Go.Proofs.YtcdcoeofhnfjdaaDoor
open Go Vm
theorem w42 {v1 v2 vr P top u2 ur q v R : Nat} (hv : v = vr + P * (v2 + 1000000000 * v1)) (hR : R = ur + P * (u2 + 1000000000 * top)) (hur : ur < P) (hu2 : u2 < 1000000000) (ht : top < q * v1) : R < q * v := by
 have h1 : q * v = q * vr + P * (q * v2 + 1000000000 * (q * v1)) := by rw [hv]; grind
 have h2 : P * (u2 + 1000000000 * top + 1) ≤ P * (q * v2 + 1000000000 * (q * v1)) := Nat.mul_le_mul_left _ (by omega)
 rw [Nat.mul_succ] at h2
 omega
theorem window {u : List Nat} {k p : Nat} (hl : k + p + 2 < u.length) (hR : vl (u.drop k) < 1000000000 ^ (p + 3)) :
  vl (u.drop (k + p + 3)) = 0 ∧ vl (u.drop k) = vl ((u.drop k).take p) + 1000000000 ^ p * (u.getD (k + p) 0 + 1000000000 * (u.getD (k + p + 2) 0 * 1000000000 + u.getD (k + p + 1) 0)) := by
 have hl' : (u.drop k).length = u.length - k := List.length_drop
 have h1 := zh6 (u.drop k) p (by omega)
 have h3 := zh6 (u.drop k) (p + 3) (by omega)
 rw [List.drop_drop] at h1 h3
 have hz : vl (u.drop (k + (p + 3))) = 0 := by
  rcases Nat.eq_zero_or_pos (vl (u.drop (k + (p + 3)))) with h | h
  ·exact h
  ·have := Nat.mul_le_mul_left (1000000000 ^ (p + 3)) h
   omega
 refine ⟨hz, ?_⟩
 rw [z69 u (k + p) (by omega), z69 u (k + p + 1) (by omega), z69 u (k + p + 1 + 1) (by omega), show k + p + 1 + 1 = k + p + 2 from rfl, show k + p + 2 + 1 = k + (p + 3) by omega, hz] at h1
 rw [h1]
 congr 2
 omega
theorem yz9 (v : List Nat) (hv : Dg v) (p : Nat) (hp : v.length = p + 2) (htop : 1 ≤ v.getD (p + 1) 0) (L : Nat) (hL : L ≤ 8388600) (hpL : p + 2 < L) : ∀ (m i : Nat) (u out : List Nat), i ≤ L - (p + 2) → 1010000000 < m → i + 1010000000 < m → u.length = L → out.length = L - (p + 2) → Dg u → Dg out → vl (u.drop i) < vl v → (∀ j, j < i → out.getD j 0 = 0) →
  ∃ u' out', z4z m ((p + 2 : Nat) : Int) ((i : Int) - 1) (zs u) (zs v) (zs out) = some (.exit (zs u', zs out', zs v, ())) ∧ Dg u' ∧ Dg out' ∧ u'.length = L ∧ out'.length = L - (p + 2) ∧ vl u' < vl v ∧ vl out' * vl v + vl u' = vl out * vl v + vl u
 | 0, i, u, out, h1, h2, h3, h4, h5, h6, h7, h8, h9 => by omega
 | m + 1, 0, u, out, h1, h2, h3, h4, h5, h6, h7, h8, h9 => by
  simp only [z4z]
  exact ⟨u, out, by simp, h6, h7, h4, h5, h8, rfl⟩
 | m + 1, k + 1, u, out, h1, h2, h3, h4, h5, h6, h7, h8, h9 => by
  simp only [z4z]
  have hvl := y9k hv
  rw [hp] at hvl
  have hR : vl (u.drop k) < 1000000000 * vl v := by
   rw [z69 u k (by omega)]
   have := z4q h6 k
   omega
  have hRB : vl (u.drop k) < 1000000000 ^ (p + 3) := by rw [show p + 3 = p + 2 + 1 from rfl, z55]; omega
  obtain ⟨hz, hW⟩ := window (u := u) (k := k) (p := p) (by omega) hRB
  have hV : vl v = vl (v.take p) + 1000000000 ^ p * (v.getD p 0 + 1000000000 * v.getD (p + 1) 0) := by
   have := zh6 v p (by omega)
   rwa [z69 v p (by omega), z69 v (p + 1) (by omega), List.drop_of_length_le (show v.length ≤ p + 1 + 1 by omega), vl, Nat.mul_zero, Nat.add_zero] at this
  have hvr : vl (v.take p) < 1000000000 ^ p := by
   have := y9k (y8h hv p)
   rwa [List.length_take, Nat.min_eq_left (by omega)] at this
  have hur : vl ((u.drop k).take p) < 1000000000 ^ p := by
   have := y9k (y8h (yt7 h6 k) p)
   rwa [List.length_take, List.length_drop, Nat.min_eq_left (by omega)] at this
  have d0 := z4q h6 (k + p + 1)
  have d1 := z4q h6 (k + p + 2)
  have d2 := z4q hv (p + 1)
  have d3 := z4q hv p
  have e1 : IntKind.i64.wrap ((k : Int) + ((p + 2 : Nat) : Int)) = ((k + p + 2 : Nat) : Int) := by rw [w64 _ (by omega) (by omega)]; omega
  have e2 : IntKind.i64.wrap (((k + p + 2 : Nat) : Int) - 1) = ((k + p + 1 : Nat) : Int) := by rw [w64 _ (by omega) (by omega)]; omega
  have e3 : IntKind.i64.wrap (((p + 2 : Nat) : Int) - 1) = ((p + 1 : Nat) : Int) := by rw [w64 _ (by omega) (by omega)]; omega
  have e4 : IntKind.i64.wrap ((k : Int) - 1) = (k : Int) - 1 := w64 _ (by omega) (by omega)
  have hi : ((k + 1 : Nat) : Int) - 1 = (k : Int) := by omega
  have e0 : (0 : Int) ≤ (k : Int) := by omega
  have c1 : (0 : Int) ≤ ((k + p + 2 : Nat) : Int) := by omega
  have c2 : ((k + p + 2 : Nat) : Int) < (u.length : Int) := by omega
  have c3 : (0 : Int) ≤ ((k + p + 1 : Nat) : Int) := by omega
  have c4 : ((k + p + 1 : Nat) : Int) < (u.length : Int) := by omega
  have c5 : (0 : Int) ≤ ((p + 1 : Nat) : Int) := by omega
  have c6 : ((p + 1 : Nat) : Int) < (v.length : Int) := by omega
  have c7 : ¬ (((v.getD (p + 1) 0 : Nat) : Int) = 0) := by omega
  have c8 : IntKind.u64.wrap ((v.getD (p + 1) 0 : Nat) : Int) = ((v.getD (p + 1) 0 : Nat) : Int) := u64n (by omega)
  have hB : ((1000000000 : Int)) = ((1000000000 : Nat) : Int) := rfl
  simp only [hi, e0, e1, e2, e3, e4, z1f, Int.toNat_natCast, z65, c1, c2, c3, c4, c5, c6, c7, c8, if_true, if_false, decide_true]
  rw [hB]
  simp (disch := omega) only [u64n, ← Int.natCast_mul, ← Int.natCast_add, w7s, wb4]
  generalize htp : u.getD (k + p + 2) 0 * 1000000000 + u.getD (k + p + 1) 0 = top at *
  have htl : top < 1000000000 * 1000000000 := by omega
  have hqt : top / v.getD (p + 1) 0 ≤ top := Nat.div_le_self _ _
  rw [u64n (by omega)]
  have hdm := Nat.div_add_mod top (v.getD (p + 1) 0)
  have hml := Nat.mod_lt top (show v.getD (p + 1) 0 > 0 by omega)
  obtain ⟨q, e, q1, q2, q3⟩ := w04 u v h6 hv (p + 2) k hp.symm (by omega) (by omega) (by omega) (vl v) (vl (u.drop k)) (vl (v.take p)) (vl ((u.drop k).take p)) (1000000000 ^ p) top
   (by rw [show p + 2 - 1 = p + 1 by omega]; exact htop) (by rw [show p + 2 - 1 = p + 1 by omega, show p + 2 - 2 = p by omega]; exact hV) (by rw [show k + (p + 2) - 2 = k + p by omega]; exact hW) hvr hur
   (by rw [show p + 2 - 1 = p + 1 by omega]; exact w9d hV hW hvr d3 hR) hR m (top / v.getD (p + 1) 0) (top % v.getD (p + 1) 0) (by rw [show p + 2 - 1 = p + 1 by omega, Nat.mul_comm]; exact hdm) (by omega) (by omega)
   (w42 hV hW hur (z4q h6 (k + p)) (by rw [Nat.succ_mul, Nat.mul_comm]; omega))
  rw [e]
  simp only
  have e5 : ((0 : Nat) : Int) = 0 := rfl
  obtain ⟨d', u1, f, f1, f2, f3, f4, f5, f6⟩ := yc2 v hv q q1 k (by omega) m 0 0 0 u (by omega) (by omega) (by omega) h6 (by omega) (by omega) (by omega)
  have f : z12 m (k : Int) (q : Int) 0 0 0 (zs u) (zs v) = _ := f
  rw [f]
  simp only
  -- the window behind the subtraction
  have t1 : u1.take k = u.take k := take_same f3 fun j hj => f4 j (by omega)
  have t2 : vl (u1.drop (k + p + 3)) = 0 := by rw [yl5 f3 fun j hj => f5 j (by omega)]; exact hz
  have s0 := zh6 u k (by omega)
  have s1 := zh6 u1 k (by omega)
  have w1 : vl (u1.drop k) + q * vl v = vl (u.drop k) + 1000000000 ^ (p + 3) * d' := by
   rw [t1] at s1
   rw [s0, s1, List.drop_zero, Nat.add_zero, show k + v.length + 1 = k + (p + 3) by omega, Nat.pow_add, Nat.mul_assoc] at f6
   have := pos9 k
   apply Nat.eq_of_mul_eq_mul_left this
   rw [Nat.mul_add, Nat.mul_add]
   simp only [Nat.add_zero] at f6
   omega
  have small : ∀ (x : List Nat), Dg x → x.length = u.length → vl (x.drop (k + p + 3)) = 0 → vl (x.drop k) < 1000000000 ^ (p + 3) := by
   intro x hx hxl h0
   have := zh6 (x.drop k) (p + 3) (by rw [List.length_drop]; omega)
   rw [List.drop_drop, show k + (p + 3) = k + p + 3 by omega, h0, Nat.mul_zero, Nat.add_zero] at this
   rw [this]
   have := y9k (y8h (yt7 hx k) (p + 3))
   rwa [List.length_take, List.length_drop, Nat.min_eq_left (by omega)] at this
  have w2 := small u1 f2 f3 t2
  -- the next round
  have next : ∀ (q' : Nat) (u2 : List Nat), q' < 1000000000 → Dg u2 → u2.length = L → vl (u2.drop k) < vl v → vl u2 + 1000000000 ^ k * (q' * vl v) = vl u →
    ∃ u' out', z4z m ((p + 2 : Nat) : Int) ((k : Int) - 1) (zs u2) (zs v) (zs (out.set k q')) = some (.exit (zs u', zs out', zs v, ())) ∧ Dg u' ∧ Dg out' ∧ u'.length = L ∧ out'.length = L - (p + 2) ∧ vl u' < vl v ∧ vl out' * vl v + vl u' = vl out * vl v + vl u := by
   intro q' u2 hq' g1 g2 g3 g4
   obtain ⟨u', out', g, j1, j2, j3, j4, j5, j6⟩ := yz9 v hv p hp htop L hL hpL m k u2 (out.set k q') (by omega) (by omega) (by omega) g2 (by rw [List.length_set]; exact h5) g1 (y8g h7 hq') g3 (fun j hj => by rw [z4x _ _ _ _ _ (by omega)]; exact h9 j (by omega))
   refine ⟨u', out', g, j1, j2, j3, j4, j5, ?_⟩
   have hs := y72 out k q' (by omega)
   rw [h9 k (by omega), Nat.mul_zero, Nat.add_zero] at hs
   rw [j6, hs, ← g4, Nat.add_mul, Nat.mul_assoc]
   omega
  have c9 : (k : Int) < (out.length : Int) := by omega
  by_cases hd : d' = 0
  ·subst hd
   rw [if_neg (by simp)]
   rw [if_pos c9, u32n (by omega), zg7]
   refine next q u1 q1 f2 (by omega) ?_ ?_
   ·rw [Nat.succ_mul] at q2; omega
   ·rw [t1] at s1
    rw [s0, s1, show vl (u.drop k) = vl (u1.drop k) + q * vl v by omega, Nat.mul_add]
    omega
  ·obtain rfl : d' = 1 := by omega
   rw [if_pos (by simp)]
   obtain ⟨c', u2, g, g1, g2, g3, g4, g5, g6⟩ := yn9 v hv k (by omega) m 0 0 u1 (by omega) (by omega) (by omega) f2 (by omega)
   have g : z1q m (k : Int) 0 0 (zs u1) (zs v) = _ := g
   rw [g]
   simp only
   have hq0 : q ≠ 0 := fun e => by subst e; omega
   obtain ⟨q', rfl⟩ : ∃ q', q = q' + 1 := ⟨q - 1, by omega⟩
   rw [if_pos c9, show ((q' + 1 : Nat) : Int) - 1 = (q' : Int) by omega, u64n (by omega), u32n (by omega), zg7]
   have t3 : u2.take k = u1.take k := take_same g3 fun j hj => g4 j (by omega)
   have t4 : vl (u2.drop (k + p + 3)) = 0 := by rw [yl5 g3 fun j hj => g5 j (by omega)]; exact t2
   have w3 := small u2 g2 (by omega) t4
   have s2 := zh6 u2 k (by omega)
   have w4 : vl (u2.drop k) + 1000000000 ^ (p + 3) * c' = vl (u1.drop k) + vl v := by
    rw [t3] at s2
    rw [s1, s2, List.drop_zero, Nat.add_zero, show k + v.length + 1 = k + (p + 3) by omega, Nat.pow_add, Nat.mul_assoc] at g6
    have := pos9 k
    apply Nat.eq_of_mul_eq_mul_left this
    rw [Nat.mul_add, Nat.mul_add]
    simp only [Nat.add_zero] at g6
    omega
   rw [Nat.succ_mul] at q3 w1
   have hc : c' = 1 := by
    rcases Nat.eq_zero_or_pos c' with h | h
    ·subst h; omega
    ·omega
   subst hc
   refine next q' u2 (by omega) g2 (by omega) ?_ ?_
   ·omega
   ·rw [t3, t1] at s2
    rw [s0, s2, show vl (u.drop k) = vl (u2.drop k) + q' * vl v by omega, Nat.mul_add]
    omega
theorem w06 (a : List Nat) (ha : a.length ≤ 4194304) : ∀ (m : Nat) (u : List Nat), Dg u → a.length + 2 < m + u.length → u.length ≤ a.length + 2 →
  ∃ u', z9o m (zs a) (zs u) = some (.exit (zs u', ())) ∧ Dg u' ∧ vl u' = vl u ∧ u.length ≤ u'.length ∧ u'.length ≤ a.length + 2 ∧ (∀ p, u = p ++ [0] → ∃ p', u' = p' ++ [0])
 | 0, u, h0, h1, h2 => by omega
 | m + 1, u, h0, h1, h2 => by
  simp only [z9o, z1f]
  by_cases hl : u.length ≤ a.length
  ·rw [if_pos (by simpa using hl), if_pos (by omega)]
   obtain ⟨u', e, k1, k2, k3, k4, k5⟩ := w06 a ha m (u ++ [0]) (z9g.2 ⟨h0, zj4.2 ⟨by decide, y1v⟩⟩) (by simp; omega) (by simp; omega)
   refine ⟨u', ?_, k1, by rw [k2, y1d], by simp at k3; omega, k4, fun _ _ => k5 _ rfl⟩
   rw [← e, ← y0y]
   rfl
  ·rw [if_neg (by simpa using hl)]
   exact ⟨u, rfl, h0, rfl, Nat.le_refl _, h2, fun p hp => ⟨p, hp⟩⟩
theorem y8e {n : Nat} (h : n ≠ 0) : (cn n).getD ((cn n).length - 1) 0 ≠ 0 := by
 rcases y5z (cn n) with e | ⟨p, d, e⟩
 ·exact absurd (yk7.1 e) h
 ·have hd := wd4 e
  rw [e]
  simp only [List.length_append, List.length_cons, List.length_nil, Nat.zero_add, Nat.add_sub_cancel]
  rwa [w09]
theorem w7z {d : Nat} (h0 : 0 < d) (hd : d < 1000000000) : cn d = [d] := by
 rw [y1t (by omega), Nat.mod_eq_of_lt hd, Nat.div_eq_of_lt hd, z4p]
theorem w01 {a b : Nat} (ha : Sz a) (hb : Sz b) (h0 : 0 < b) : za2 fuel (zs (cn a)) (zs (cn b)) = some (zs (cn (a / b)), zs (cn (a % b))) := by
 unfold za2
 have ha' := ha
 have hb' := hb
 unfold Sz at ha' hb'
 have hf := zr1
 rw [yz3 ha hb, Option.bind_some]
 by_cases hab : a < b
 ·rw [if_pos hab, if_pos (by decide), Nat.div_eq_of_lt hab, Nat.mod_eq_of_lt hab, z4p]
  rfl
 rw [if_neg hab]
 rw [if_neg (by split <;> decide)]
 have hbl : 0 < (cn b).length := z8v (by omega)
 simp only [z1f]
 by_cases h1 : (cn b).length = 1
 ·obtain ⟨d, hd⟩ : ∃ d, cn b = [d] := by
   match hc : cn b, h1 with
   | [d], _ => exact ⟨d, rfl⟩
  have hbd : b = d := by rw [← y4x b, hd]; simp [vl]
  have hd9 := y07 b d (by rw [hd]; simp)
  rw [if_pos (by simp [h1]), if_pos (by omega), z65, hd]
  have e : ((([d] : List Nat).getD 0 0 : Nat) : Int) = (d : Int) := rfl
  rw [e, w14 (y07 a) (by omega) (by omega) hd9, Option.bind_some, y4x, hbd]
 rw [if_neg (by simp; omega)]
 have e1 : IntKind.i64.wrap (((cn b).length : Int) - 1) = (((cn b).length - 1 : Nat) : Int) := by rw [w64 _ (by omega) (by omega)]; omega
 have htb := y8e (show b ≠ 0 by omega)
 have hdb := z4q (y07 b) ((cn b).length - 1)
 generalize hbt : (cn b).getD ((cn b).length - 1) 0 = bt at *
 have hB : ((1000000000 : Int)) = ((1000000000 : Nat) : Int) := rfl
 have hO : ((1 : Int)) = ((1 : Nat) : Int) := rfl
 have hby : 1000000000 / (bt + 1) ≤ 1000000000 := Nat.div_le_self _ _
 have hby1 : 0 < 1000000000 / (bt + 1) := Nat.div_pos (by omega) (by omega)
 have hby2 : 1000000000 / (bt + 1) < 1000000000 := Nat.div_lt_self (by decide) (by omega)
 have eby : IntKind.u32.wrap (IntKind.u64.wrap ((1000000000 : Int).tdiv (IntKind.u64.wrap ((IntKind.u64.wrap ((bt : Nat) : Int)) + 1)))) = ((1000000000 / (bt + 1) : Nat) : Int) := by
  rw [hB, hO]
  simp (disch := omega) only [u64n, ← Int.natCast_add, w7s, u32n]
 simp only [e1, Int.toNat_natCast, z65, hbt, eby]
 have c1 : (0 : Int) ≤ (((cn b).length - 1 : Nat) : Int) := by omega
 have c2 : (((cn b).length - 1 : Nat) : Int) < ((cn b).length : Int) := by omega
 have c3 : ¬ (IntKind.u64.wrap ((IntKind.u64.wrap ((bt : Nat) : Int)) + 1) = 0) := by
  rw [hO]
  simp (disch := omega) only [u64n, ← Int.natCast_add]
  omega
 rw [if_pos c1, if_pos c2, if_neg c3]
 generalize 1000000000 / (bt + 1) = by' at *
 have hby' : Sz by' := by unfold Sz; rw [w7z hby1 hby2]; simp
 rw [w8w, ← w7z hby1 hby2, y4l ha hby', Option.bind_some]
 have hla : (cn (a * by')).length ≤ (cn a).length + 1 := by
  rw [z9f, z55, Nat.mul_comm]
  exact Nat.mul_lt_mul_of_lt_of_le hby2 (Nat.le_of_lt (w6k a)) (pos9 _)
 have hlb : (cn b).length ≤ (cn (b * by')).length := y8d (Nat.le_mul_of_pos_right _ hby1)
 have hlba : (cn (b * by')).length ≤ (cn (a * by')).length := y8d (Nat.mul_le_mul_right _ (by omega))
 rw [z1f, if_pos (by omega), y4l hb hby', Option.bind_some]
 obtain ⟨u, e, k1, k2, k3, k4, k5⟩ := w06 (cn a) ha' fuel (cn (a * by') ++ [0]) (z9g.2 ⟨y07 _, zj4.2 ⟨by decide, y1v⟩⟩) (by omega) (by simp; omega)
 rw [show zs (cn (a * by')) ++ [0] = zs (cn (a * by') ++ [0]) from y0y _ 0, e]
 simp only [z1f]
 simp only [List.length_append, List.length_cons, List.length_nil, Nat.zero_add] at k3
 obtain ⟨v, hv⟩ : ∃ v, v = cn (b * by') := ⟨_, rfl⟩
 have hvv : vl v = b * by' := by rw [hv, y4x]
 have hvd : Dg v := hv ▸ y07 _
 rw [← hv] at hlb hlba ⊢
 obtain ⟨p, hp⟩ : ∃ p, v.length = p + 2 := ⟨v.length - 2, by omega⟩
 have hvt : 1 ≤ v.getD (p + 1) 0 := by
  have := y8e (n := b * by') (by have := Nat.mul_pos h0 hby1; omega)
  rw [← hv, hp] at this
  exact Nat.pos_of_ne_zero this
 have e2 : IntKind.i64.wrap ((u.length : Int) - (v.length : Int)) = ((u.length - (p + 2) : Nat) : Int) := by rw [w64 _ (by omega) (by omega)]; omega
 have e3 : IntKind.i64.wrap (((u.length - (p + 2) : Nat) : Int) - 1) = ((u.length - (p + 2) : Nat) : Int) - 1 := w64 _ (by omega) (by omega)
 simp only [e2, e3, Int.toNat_natCast]
 rw [if_pos (by omega), if_pos (by omega), if_pos (by omega), yq9, hp]
 have hbig : 1099511627776 ≤ fuel := hf
 obtain ⟨u2, out, g, j1, j2, j3, j4, j5, j6⟩ := yz9 v hvd p hp hvt u.length (by omega) (by omega) fuel (u.length - (p + 2)) u (List.replicate (u.length - (p + 2)) 0) (by omega) (by omega) (by omega) rfl (by simp) k1 (yz6 _)
  (by
    obtain ⟨q, rfl⟩ := k5 _ rfl
    simp only [List.length_append, List.length_cons, List.length_nil, Nat.zero_add] at k3 k4 ⊢
    rw [List.drop_append_of_le_length (by omega), y1d]
    have h1 := y9k (yt7 (z9g.1 k1).1 (q.length + 1 - (p + 2)))
    rw [List.length_drop, show q.length - (q.length + 1 - (p + 2)) = p + 1 by omega] at h1
    have h2 := wd3 (n := b * by') (by have := Nat.mul_pos h0 hby1; omega)
    rw [← hv, hp] at h2
    rw [hvv]
    exact Nat.lt_of_lt_of_le h1 h2) (fun j _ => y7n _ j)
 rw [g]
 simp only
 have k2' : vl u = a * by' := by rw [k2, y1d, y4x]
 rw [yq6, Nat.zero_mul, Nat.zero_add, k2', hvv] at j6
 rw [hvv] at j5
 have hpos : 0 < b * by' := Nat.mul_pos h0 hby1
 have hq : vl out = a / b := by
  rw [← Nat.mul_div_mul_right a b hby1, ← j6, Nat.mul_comm (vl out), Nat.mul_add_div hpos, Nat.div_eq_of_lt j5, Nat.add_zero]
 have hr : vl u2 = a % b * by' := by
  rw [← Nat.mul_mod_mul_right, ← j6, Nat.mul_comm (vl out), Nat.mul_add_mod, Nat.mod_eq_of_lt j5]
 rw [yh7 j1 (by omega), Option.bind_some, w14 (y07 _) (by have := (z9f (vl u2) u2.length).2 (y9k j1); omega) hby1 hby2, Option.bind_some, yh7 j2 (by omega), Option.bind_some, hq, y4x, hr, Nat.mul_div_cancel _ hby1]
theorem y9i {a b : Nat} (h : a ≤ b) (hb : Sz b) : Sz a := Nat.le_trans (y8d h) hb
theorem w08 : ∀ (m a b : Nat), Sz a → Sz b → (∃ j, b < 2 ^ j ∧ 2 * j + 1 < m) → z7h m (zs (cn a)) (zs (cn b)) = some (.exit (zs (cn (Nat.gcd a b)), ()))
 | 0, a, b, ha, hb, ⟨j, h1, h2⟩ => by omega
 | m + 1, a, b, ha, hb, ⟨j, h1, h2⟩ => by
  simp only [z7h, z1f]
  by_cases h0 : b = 0
  ·subst h0
   rw [z4p, if_neg (by simp), Nat.gcd_zero_right]
  ·have := z8v h0
   rw [if_pos (by simpa using z8v h0), w01 ha hb (by omega), Option.bind_some]
   have hm := Nat.mod_lt a (show b > 0 by omega)
   have hg : Nat.gcd a b = Nat.gcd b (a % b) := by rw [Nat.gcd_comm a b, Nat.gcd_rec b a, Nat.gcd_comm]
   rw [hg]
   have hz := y9i (Nat.le_of_lt hm) hb
   match m, h2 with
   | m + 1, h2 =>
   simp only [z7h, z1f]
   by_cases h3 : a % b = 0
   ·rw [h3, z4p, if_neg (by simp), Nat.gcd_zero_right]
   ·rw [if_pos (by simpa using z8v h3), w01 hb hz (by omega), Option.bind_some]
    have hg2 : Nat.gcd b (a % b) = Nat.gcd (a % b) (b % (a % b)) := by rw [Nat.gcd_comm b, Nat.gcd_rec (a % b) b, Nat.gcd_comm]
    rw [hg2]
    have hm2 := Nat.mod_lt b (show a % b > 0 by omega)
    have hj : j ≠ 0 := fun e => by subst e; omega
    refine w08 m (a % b) (b % (a % b)) hz (y9i (Nat.le_of_lt hm2) hz) ⟨j - 1, ?_, by omega⟩
    obtain ⟨i, rfl⟩ : ∃ i, j = i + 1 := ⟨j - 1, by omega⟩
    rw [Nat.pow_succ] at h1
    have : 2 * (b % (a % b)) < b := by
     have h4 := Nat.div_add_mod b (a % b)
     have h5 : 1 ≤ b / (a % b) := Nat.div_pos (by omega) (by omega)
     have h6 := Nat.mul_le_mul_left (a % b) h5
     omega
    rw [Nat.add_sub_cancel]
    omega
theorem w4d {a b : Nat} (ha : Sz a) (hb : Sz b) : z62 fuel (zs (cn a)) (zs (cn b)) = some (zs (cn (Nat.gcd a b))) := by
 unfold z62
 have hf := zr1
 rw [w08 fuel a b ha hb ⟨30 * (cn b).length, ?_, by unfold Sz at hb; omega⟩]
 refine Nat.lt_of_lt_of_le (w6k b) ?_
 rw [Nat.pow_mul]
 exact Nat.pow_le_pow_left (by decide) _
end Go.Proofs.YtcdcoeofhnfjdaaDoor
