/- The simplex method: the auxiliary variable is driven out. -/
import Derived.Test.YtcdcoeofhnfjdaaDoorSe
namespace Go.Proofs.YtcdcoeofhnfjdaaDoor
open Go Vm
variable {m n K : Nat} {A : Nat → Nat → Rat} {b : Nat → Rat}
theorem yl4 (hm : m ≤ 20) (hn : n ≤ 20) (hK : K ≤ 4000000) (hgood : Good (m + 1) (n + m + 2 + 1) K (gM m (n + m + 2) (lpM m n A b) (cx m n))) {β : Nat → Nat} {T : Nat → Nat → Rat} (ht : Tab m n (n + m + 2) (lpM m n A b) (cx m n) β T) {i : Nat} (hi : i < m) {g : List (List Qd)} (hg : QG (m + 1) (n + m + 2) T g) :
  ∀ (f k : Nat), n + m + 1000 < f + k → (∃ q, k ≤ q ∧ q < n + m ∧ T i q ≠ 0) → ∃ (q : Nat) (g' : List (List Qd)), q < n + m ∧ T i q ≠ 0 ∧
   z0z f (i : Int) ((n + m : Nat) : Int) (k : Int) (n : Int) (m : Int) g (bL m β) = some (.exit ((n : Int), (m : Int), g', bL m (ub i q β), ())) ∧ QG (m + 1) (n + m + 2) (piv i q T) g'
 | 0, k, h, ⟨q, h1, h2, _⟩ => by omega
 | f + 1, k, h, ⟨q, h1, h2, h3⟩ => by
  have lg := hg.1
  have lb := z5a (m := m) (β := β)
  have hri := hg.2 i (by omega)
  have li := hri.1
  have qk := hri.at (i := k) (by omega)
  have e4 : IntKind.i64.wrap ((k : Int) + 1) = ((k + 1 : Nat) : Int) := by rw [w64 _ (by omega) (by omega)]; omega
  simp only [z0z]
  simp only [Int.toNat_natCast]
  rw [if_pos (show decide (((k : Nat) : Int) < ((n + m : Nat) : Int)) = true by rw [decide_eq_true_eq]; omega), if_pos (by omega), if_pos (by omega), if_pos (by omega), if_pos (show ((k : Nat) : Int) < (((g.getD i ([] : List Qd)).length : Nat) : Int) by omega), z8f qk, Option.bind_some, e4]
  by_cases z : T i k = 0
  ·rw [if_neg (by rw [z]; decide)]
   exact yl4 hm hn hK hgood ht hi hg f (k + 1) (by omega) ⟨q, by
     by_cases e : q = k
     · rw [e] at h3; exact absurd z h3
     · omega, h2, h3⟩
  ·have hs : ((T i k).num.sign != 0) = true := by
    rw [bne_iff_ne]
    intro h
    exact z (zl2.1 (by rw [h]; rfl))
   have hdr := ht.dr hgood
   have ht' := ht.pivot (by omega) (fun i _ j hj => ya0 hj) hi (show k < n + m + 2 by omega) z
   obtain ⟨g1, g2, v1, v2, v3⟩ := pvB (u := (n : Int)) (v := (m : Int)) (bl := bL m β) (p := i) (k := k) (R := m + 1) (C := n + m + 2) (by omega) (by omega) hK (by omega) (by omega) z hdr (ht'.dr hgood) hg (m := f) (by omega)
   rw [if_pos hs, if_pos (by omega), if_pos (by omega), if_pos (by omega), if_pos (show ((k : Nat) : Int) < (((g.getD i ([] : List Qd)).length : Nat) : Int) by omega), if_pos (by omega), if_pos (by omega), v1]
   simp only
   rw [v2]
   simp only
   rw [if_pos (by omega), if_pos (by omega), yz0 hi]
   exact ⟨k, g2, by omega, z, rfl, v3⟩
theorem y8k (hm : m ≤ 20) (hn : n ≤ 20) (hK : K ≤ 4000000) (hgood : Good (m + 1) (n + m + 2 + 1) K (gM m (n + m + 2) (lpM m n A b) (cx m n))) : ∀ (f i : Nat) (β : Nat → Nat) (T : Nat → Nat → Rat) (g : List (List Qd)), i ≤ m → n + m + 3000 < f + i →
  Tab m n (n + m + 2) (lpM m n A b) (cx m n) β T → (∀ j, j < m → 0 ≤ T j (n + m + 1)) → ¬ T m (n + m + 1) < 0 → (∀ j, j < m → β j < n + m + 1) → (∀ j, j < i → β j < n + m) → QG (m + 1) (n + m + 2) T g →
  ∃ β' T' g', z0s f ((n + m : Nat) : Int) (m : Int) (i : Int) (n : Int) (m : Int) (bL m β) g = some (.exit ((n : Int), (m : Int), bL m β', g', ())) ∧ Tab m n (n + m + 2) (lpM m n A b) (cx m n) β' T' ∧
   (∀ j, j < m → 0 ≤ T' j (n + m + 1)) ∧ (∀ j, j < m → β' j < n + m) ∧ QG (m + 1) (n + m + 2) T' g'
 | 0, i, β, T, g, h1, h2, _, _, _, _, _, _ => by omega
 | f + 1, i, β, T, g, h1, h2, ht, hpos, hv, hl, hli, hg => by
  have lb := z5a (m := m) (β := β)
  simp only [z0s]
  by_cases hi : i < m
  ·have e4 : IntKind.i64.wrap ((i : Int) + 1) = ((i + 1 : Nat) : Int) := by rw [w64 _ (by omega) (by omega)]; omega
   rw [if_pos (by simpa using hi), if_pos (by omega), if_pos (by omega), Int.toNat_natCast, y85 hi, e4]
   have hbi := hl i hi
   by_cases c : β i = n + m
   ·have ha := wf6 ht hpos hv hi c
    obtain ⟨q0, d1, d2⟩ := w7a ht hi c
    obtain ⟨q, g', k1, k2, k3, k4⟩ := yl4 hm hn hK hgood ht hi hg f 0 (by omega) ⟨q0, by omega, d1, d2⟩
    have k3 : z0z f (i : Int) ((n + m : Nat) : Int) 0 (n : Int) (m : Int) g (bL m β) = some (.exit ((n : Int), (m : Int), g', bL m (ub i q β), ())) := k3
    have hsame : ∀ j, piv i q T j (n + m + 1) = T j (n + m + 1) := fun j => by
     unfold piv
     have z : T i (n + m + 1) / T i q = 0 := by rw [ha, Rat.div_def, Rat.zero_mul]
     by_cases e : j = i
     ·rw [if_pos e, z, e, ha]
     ·rw [if_neg e, z]; grind
    have hub : ∀ j, ub i q β j = if j = i then q else β j := fun j => rfl
    rw [if_neg (by rw [bne_iff_ne, c]; exact fun h => h rfl), k3]
    simp only
    refine y8k hm hn hK hgood f (i + 1) (ub i q β) (piv i q T) g' (by omega) (by omega) (ht.pivot (by omega) (fun i _ j hj => ya0 hj) hi (show q < n + m + 2 by omega) k2) (fun j hj => by rw [hsame]; exact hpos j hj) (by rw [hsame]; exact hv) (fun j hj => ?_) (fun j hj => ?_) k4
    ·rw [hub]
     by_cases e : j = i
     ·rw [if_pos e]; omega
     ·rw [if_neg e]; exact hl j hj
    ·rw [hub]
     by_cases e : j = i
     ·rw [if_pos e]; exact k1
     ·rw [if_neg e]; exact hli j (by omega)
   ·rw [if_pos (by rw [bne_iff_ne]; omega)]
    refine y8k hm hn hK hgood f (i + 1) β T g (by omega) (by omega) ht hpos hv hl (fun j hj => ?_) hg
    by_cases e : j = i
    ·subst e; omega
    ·exact hli j (by omega)
  ·rw [if_neg (by simpa using hi)]
   have : i = m := by omega
   subst this
   exact ⟨β, T, g, rfl, ht, hpos, hli, hg⟩
end Go.Proofs.YtcdcoeofhnfjdaaDoor
