/- What the division of digits computes (Knuth's algorithm). -/
import Derived.Test.YtcdcoeofhnfjdaaDoorNb
namespace Go.Proofs.YtcdcoeofhnfjdaaDoor
open Go Vm
theorem w9c {v1 v2 vr P top u2 ur q r v R : Nat} (hv : v = vr + P * (v2 + 1000000000 * v1)) (hR : R = ur + P * (u2 + 1000000000 * top)) (hur : ur < P) (ht : q * v1 + r = top) (hc : r * 1000000000 + u2 < q * v2) : R < q * v := by
 have h1 : q * v = q * vr + P * (q * v2 + 1000000000 * (q * v1)) := by rw [hv]; grind
 have h2 : P * (u2 + 1000000000 * top + 1) ≤ P * (q * v2 + 1000000000 * (q * v1)) := Nat.mul_le_mul_left _ (by omega)
 rw [Nat.mul_succ] at h2
 omega
theorem w05 {v1 v2 vr P top u2 ur q r v R : Nat} (hv : v = vr + P * (v2 + 1000000000 * v1)) (hR : R = ur + P * (u2 + 1000000000 * top)) (hvr : vr < P) (h1 : 1 ≤ v1) (hq : q < 1000000000) (ht : q * v1 + r = top) (hc : q * v2 ≤ r * 1000000000 + u2) : q * v ≤ R + v := by
 have h2 : q * v = q * vr + P * (q * v2 + 1000000000 * (q * v1)) := by rw [hv]; grind
 have h3 : P * (q * v2 + 1000000000 * (q * v1)) ≤ P * (u2 + 1000000000 * top) := Nat.mul_le_mul_left _ (by omega)
 have h4 : q * vr ≤ P * q := by rw [Nat.mul_comm]; exact Nat.mul_le_mul_right _ (by omega)
 have h5 : P * q ≤ P * (v2 + 1000000000 * v1) := Nat.mul_le_mul_left _ (by omega)
 omega
theorem w9d {v1 v2 vr P top u2 ur v R : Nat} (hv : v = vr + P * (v2 + 1000000000 * v1)) (hR : R = ur + P * (u2 + 1000000000 * top)) (hvr : vr < P) (hv2 : v2 < 1000000000) (h : R < 1000000000 * v) : top < 1000000000 * v1 + 1000000000 := by
 apply Nat.lt_of_not_le
 intro hle
 have h1 : P * (1000000000 * (1000000000 * v1 + 1000000000)) ≤ P * (u2 + 1000000000 * top) := Nat.mul_le_mul_left _ (by omega)
 have h2 : P * (v2 + 1000000000 * v1 + 1) ≤ P * (1000000000 * v1 + 1000000000) := Nat.mul_le_mul_left _ (by omega)
 rw [Nat.mul_succ] at h2
 have h3 : P * (1000000000 * (1000000000 * v1 + 1000000000)) = 1000000000 * (P * (1000000000 * v1 + 1000000000)) := by rw [Nat.mul_left_comm]
 omega
theorem w04 (u v : List Nat) (hu : Dg u) (hv : Dg v) (n k : Nat) (hn : n = v.length) (h2 : 2 ≤ n) (hk : k + n < u.length) (hs : u.length ≤ 8388608) (V R vr ur P top : Nat) (h1 : 1 ≤ v.getD (n - 1) 0)
  (eV : V = vr + P * (v.getD (n - 2) 0 + 1000000000 * v.getD (n - 1) 0)) (eR : R = ur + P * (u.getD (k + n - 2) 0 + 1000000000 * top)) (hvr : vr < P) (hur : ur < P) (htop : top < 1000000000 * v.getD (n - 1) 0 + 1000000000) (hRV : R < 1000000000 * V) :
  ∀ (m q r : Nat), q * v.getD (n - 1) 0 + r = top → r < 1000000000 → 1000000000 < m + r → R < (q + 1) * V →
  ∃ q' : Nat, z5o m (n : Int) (k : Int) (q : Int) (r : Int) (zs u) (zs v) = some (.exit ((q' : Int), zs u, zs v, ())) ∧ q' < 1000000000 ∧ R < (q' + 1) * V ∧ q' * V ≤ R + V
 | 0, q, r, ht, hr, hm, hq => by omega
 | m + 1, q, r, ht, hr, hm, hq => by
  simp only [z5o]
  have d1 := z4q hv (n - 1)
  have d2 := z4q hv (n - 2)
  have d3 := z4q hu (k + n - 2)
  have hqt : q ≤ top := by
   have := Nat.mul_le_mul_left q h1
   omega
  have e1 : IntKind.i64.wrap ((n : Int) - 2) = ((n - 2 : Nat) : Int) := by rw [w64 _ (by omega) (by omega)]; omega
  have e2 : IntKind.i64.wrap ((n : Int) - 1) = ((n - 1 : Nat) : Int) := by rw [w64 _ (by omega) (by omega)]; omega
  have e3 : IntKind.i64.wrap ((IntKind.i64.wrap ((k : Int) + (n : Int))) - 2) = ((k + n - 2 : Nat) : Int) := by rw [w64 ((k : Int) + (n : Int)) (by omega) (by omega), w64 _ (by omega) (by omega)]; omega
  have c1 : (0 : Int) ≤ ((n - 2 : Nat) : Int) := by omega
  have c2 : ((n - 2 : Nat) : Int) < (v.length : Int) := by omega
  have c3 : (0 : Int) ≤ ((n - 1 : Nat) : Int) := by omega
  have c4 : ((n - 1 : Nat) : Int) < (v.length : Int) := by omega
  have c5 : (0 : Int) ≤ ((k + n - 2 : Nat) : Int) := by omega
  have c6 : ((k + n - 2 : Nat) : Int) < (u.length : Int) := by omega
  have hB : ((1000000000 : Int)) = ((1000000000 : Nat) : Int) := rfl
  simp only [e1, e2, e3, z1f, Int.toNat_natCast, z65, c1, c2, c3, c4, c5, c6, if_true]
  -- one step down
  have down : R < q * V → ∃ q' : Nat, (if decide (IntKind.u64.wrap ((r : Int) + (IntKind.u64.wrap ((v.getD (n - 1) 0 : Nat) : Int))) ≥ 1000000000) = true then some (.exit ((IntKind.u64.wrap ((q : Int) - 1)), zs u, zs v, ()))
        else z5o m (n : Int) (k : Int) (IntKind.u64.wrap ((q : Int) - 1)) (IntKind.u64.wrap ((r : Int) + (IntKind.u64.wrap ((v.getD (n - 1) 0 : Nat) : Int)))) (zs u) (zs v)) = some (LR.exit (x := zk3) (r := zk2) ((q' : Int), zs u, zs v, ())) ∧
     q' < 1000000000 ∧ R < (q' + 1) * V ∧ q' * V ≤ R + V := by
   intro hlt
   have hq0 : q ≠ 0 := fun e => by rw [e, Nat.zero_mul] at hlt; omega
   obtain ⟨p, rfl⟩ : ∃ p, q = p + 1 := ⟨q - 1, by omega⟩
   have ht' : p * v.getD (n - 1) 0 + (r + v.getD (n - 1) 0) = top := by rw [← ht, Nat.succ_mul]; omega
   have w1 : IntKind.u64.wrap (((p + 1 : Nat) : Int) - 1) = (p : Int) := by rw [show ((p + 1 : Nat) : Int) - 1 = (p : Int) by omega, u64n (by omega)]
   rw [w1]
   simp (disch := omega) only [u64n, ← Int.natCast_add]
   by_cases hge : 1000000000 ≤ r + v.getD (n - 1) 0
   ·rw [if_pos (by simp only [decide_eq_true_eq]; omega)]
    have hp : p < 1000000000 := by
     apply Nat.lt_of_not_le
     intro hle
     have := Nat.mul_le_mul_right (v.getD (n - 1) 0) hle
     omega
    refine ⟨p, rfl, hp, hlt, w05 eV eR hvr h1 hp ht' ?_⟩
    have := y4k hp d2
    have : 1000000000 * 1000000000 ≤ (r + v.getD (n - 1) 0) * 1000000000 := Nat.mul_le_mul_right _ hge
    omega
   ·rw [if_neg (by simp only [decide_eq_true_eq]; omega)]
    exact w04 u v hu hv n k hn h2 hk hs V R vr ur P top h1 eV eR hvr hur htop hRV m p (r + v.getD (n - 1) 0) ht' (by omega) (by omega) hlt
  by_cases hqB : 1000000000 ≤ q
  ·rw [if_neg (by simp only [decide_eq_false_iff_not]; omega)]
   refine down ?_
   exact Nat.lt_of_lt_of_le hRV (Nat.mul_le_mul_right _ hqB)
  ·rw [if_pos (by simp only [decide_eq_false_iff_not]; omega), hB]
   have hp := y4k (show q < 1000000000 by omega) d2
   simp (disch := omega) only [u64n, ← Int.natCast_add, ← Int.natCast_mul]
   by_cases hc : r * 1000000000 + u.getD (k + n - 2) 0 < q * v.getD (n - 2) 0
   ·rw [if_pos (by simp only [decide_eq_true_eq]; omega)]
    have := down (w9c eV eR hur ht hc)
    rw [hB] at this
    simp (disch := omega) only [u64n, ← Int.natCast_add] at this
    exact this
   ·rw [if_neg (by simp only [decide_eq_true_eq]; omega)]
    exact ⟨q, rfl, by omega, hq, w05 eV eR hvr h1 (by omega) ht (by omega)⟩
end Go.Proofs.YtcdcoeofhnfjdaaDoor
