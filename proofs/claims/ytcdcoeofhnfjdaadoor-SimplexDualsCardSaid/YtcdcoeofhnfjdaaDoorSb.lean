/- The simplex method: the list of basic variables, the side's column, the leaving row. -/
import Derived.Test.YtcdcoeofhnfjdaaDoorSa
namespace Go.Proofs.YtcdcoeofhnfjdaaDoor
open Go Vm
def bL (m : Nat) (β : Nat → Nat) : List Int := (List.range m).map fun i => ((β i : Nat) : Int)
theorem z5a {m : Nat} {β : Nat → Nat} : (bL m β).length = m := by simp [bL]
theorem y85 {m : Nat} {β : Nat → Nat} {i : Nat} (h : i < m) : (bL m β).getD i 0 = ((β i : Nat) : Int) := by
 rw [List.getD_eq_getElem?_getD, bL, List.getElem?_map, List.getElem?_range h]; rfl
theorem w91 {m : Nat} {β : Nat → Nat} : bL m β ++ [((β m : Nat) : Int)] = bL (m + 1) β := by
 unfold bL; rw [List.range_succ, List.map_append]; rfl
theorem yz0 {m : Nat} {β : Nat → Nat} {p k : Nat} (_ : p < m) : (bL m β).set p ((k : Nat) : Int) = bL m (ub p k β) := by
 apply List.ext_getElem
 ·simp [bL]
 ·intro i h1 h2
  rw [List.getElem_set]
  simp only [bL, List.getElem_map, List.getElem_range, ub]
  by_cases e : p = i
  ·rw [if_pos e, if_pos e.symm]
  ·rw [if_neg e, if_neg fun h => e h.symm]
theorem y9d {n m : Nat} (hn : n ≤ 100) (hm : m ≤ 100) (g : List (List Qd)) (bl : List Int) : z1m fuel (g, (bl, ((n : Int), (m : Int)))) = some ((n + m + 1 : Nat) : Int) := by
 unfold z1m
 simp only
 have e1 : IntKind.i64.wrap ((n : Int) + (m : Int)) = ((n + m : Nat) : Int) := by rw [w64 _ (by omega) (by omega)]; omega
 rw [e1, w64 _ (by omega) (by omega)]
 congr 1
theorem w7n {r : Rat} : ¬ r.num.sign ≤ 0 ↔ 0 < r := by
 rw [w0p]
 exact ⟨fun h => by grind, fun h h' => by grind⟩
theorem zl2 {r : Rat} : (r.num.sign == 0) = true ↔ r = 0 := by
 rw [beq_iff_eq, Int.sign_eq_zero_iff_zero, Rat.num_eq_zero]
theorem zc4 {r : Rat} : r.num.sign < 0 ↔ r < 0 := by
 have := y5q (r := r)
 constructor
 ·intro h
  have h2 : ¬ 0 ≤ r := fun h3 => this.2 h3 h
  grind
 ·intro h
  by_cases c : r.num.sign < 0
  ·exact c
  ·have := this.1 c; grind
def LI (side k : Nat) (β : Nat → Nat) (T : Nat → Nat → Rat) (best : Int) (q : Qd) (i : Nat) : Prop :=
 (best = -1 ∧ ∀ j, j < i → ¬ 0 < T j k) ∨ ∃ p, p < i ∧ best = ((p : Nat) : Int) ∧ 0 < T p k ∧ QR (T p side / T p k) q ∧ ∀ j, j < i → 0 < T j k → T p side / T p k ≤ T j side / T j k ∧ (T p side / T p k = T j side / T j k → β p ≤ β j)
theorem z75 {R C K m n k : Nat} (hm : m ≤ 100) (hn : n ≤ 100) (hR : m ≤ R) (hC : C = n + m + 2) (hK : K ≤ 4000000) {T : Nat → Nat → Rat} {β : Nat → Nat} {g : List (List Qd)} (hg : QG R C T g) (hk : k < C) (hd : ∀ r, r < R → ∀ q, q < C → Dr K (T r q)) :
  ∀ (f i : Nat) (best : Int) (q : Qd), i ≤ m → m < f + i → LI (n + m + 1) k β T best q i →
  ∃ best' q', z10 f (g, (bL m β, ((n : Int), (m : Int)))) (k : Int) best (m : Int) (i : Int) q.1 q.2.1 q.2.2 = some (.exit (best', q'.1, q'.2.1, q'.2.2, ())) ∧ LI (n + m + 1) k β T best' q' m
 | 0, i, best, q, h1, h2, _ => by omega
 | f + 1, i, best, q, h1, h2, hL => by
  have lg := hg.1
  have lb := z5a (m := m) (β := β)
  simp only [z10]
  by_cases hi : i < m
  ·have e4 : IntKind.i64.wrap ((i : Int) + 1) = ((i + 1 : Nat) : Int) := by rw [w64 _ (by omega) (by omega)]; omega
   have hri := hg.2 i (by omega)
   have li := hri.1
   have qk := hri.at hk
   have qs := hri.at (i := n + m + 1) (by omega)
   rw [if_pos (by simpa using hi), if_pos (by omega), if_pos (by omega), if_pos (by omega), Int.toNat_natCast, if_pos (by omega), Int.toNat_natCast, z8f qk, Option.bind_some, e4]
   by_cases hpos : 0 < T i k
   ·obtain ⟨z, hz, hqz⟩ := yg9 qs qk (hd i (by omega) _ (by omega)) (hd i (by omega) _ hk) (by omega) (by grind)
    have dz := w83 (hd i (by omega) (n + m + 1) (by omega)) (hd i (by omega) _ hk) (show T i k ≠ 0 by grind)
    have keep : best = -1 ∧ (∀ j, j < i → ¬ 0 < T j k) → LI (n + m + 1) k β T (i : Int) z (i + 1) := fun hh => .inr ⟨i, by omega, rfl, hpos, hqz, fun j hj hj0 => by
      by_cases e : j = i
      · subst e; exact ⟨Rat.le_refl, fun _ => Nat.le_refl _⟩
      · exact absurd hj0 (hh.2 j (by omega))⟩
    have hdec : ¬ decide ((T i k).num.sign ≤ 0) = true := by simpa using w7n.2 hpos
    rw [if_neg hdec, if_pos (by omega), if_pos (by omega), if_pos (by omega), if_pos (by omega), if_pos (by omega), if_pos (by omega), y9d hn hm, Option.bind_some, if_pos (by omega), if_pos (by omega), Int.toNat_natCast, hz, Option.bind_some]
    rcases hL with ⟨rfl, hno⟩ | ⟨p, hp, rfl, hp0, hqp, hmin⟩
    ·rw [if_neg (by simp)]
     exact z75 hm hn hR hC hK hg hk hd f (i + 1) _ z (by omega) (by omega) (keep ⟨rfl, hno⟩)
    ·have dp := w83 (hd p (by omega) (n + m + 1) (by omega)) (hd p (by omega) _ hk) (show T p k ≠ 0 by grind)
     have hc := w5g hqz hqp dz dp (by omega)
     have hc : z70 fuel z (q.1, (q.2.1, q.2.2)) = _ := hc
     have new : (T i (n + m + 1) / T i k < T p (n + m + 1) / T p k ∨ (T i (n + m + 1) / T i k = T p (n + m + 1) / T p k ∧ β i < β p)) → LI (n + m + 1) k β T (i : Int) z (i + 1) := fun hh => .inr ⟨i, by omega, rfl, hpos, hqz, fun j hj hj0 => by
       by_cases e : j = i
       · subst e; exact ⟨Rat.le_refl, fun _ => Nat.le_refl _⟩
       · obtain ⟨a1, a2⟩ := hmin j (by omega) hj0
         rcases hh with hh | ⟨hh, hb⟩
         · exact ⟨Rat.le_trans (Rat.le_of_lt hh) a1, fun e => by grind⟩
         · rw [hh]; exact ⟨a1, fun e => by have := a2 e; omega⟩⟩
     have old : (T p (n + m + 1) / T p k < T i (n + m + 1) / T i k ∨ (T i (n + m + 1) / T i k = T p (n + m + 1) / T p k ∧ ¬ β i < β p)) → LI (n + m + 1) k β T (p : Int) q (i + 1) := fun hh => .inr ⟨p, by omega, rfl, hp0, hqp, fun j hj hj0 => by
       by_cases e : j = i
       · subst e
         rcases hh with hh | ⟨hh, hb⟩
         · exact ⟨Rat.le_of_lt hh, fun e => by grind⟩
         · exact ⟨by rw [hh]; exact Rat.le_refl, fun _ => by omega⟩
       · exact hmin j (by omega) hj0⟩
     rw [if_pos (by simp), hc, Option.bind_some]
     by_cases c1 : T i (n + m + 1) / T i k < T p (n + m + 1) / T p k
     ·have : (T i (n + m + 1) / T i k - T p (n + m + 1) / T p k).num.sign < 0 := zc4.2 (by grind)
      rw [if_neg (by rw [decide_eq_false_iff_not]; exact fun h => h this)]
      exact z75 hm hn hR hC hK hg hk hd f (i + 1) _ z (by omega) (by omega) (new (.inl c1))
     ·have hs : ¬ (T i (n + m + 1) / T i k - T p (n + m + 1) / T p k).num.sign < 0 := fun h => c1 (by have := zc4.1 h; grind)
      rw [if_pos (by rw [decide_eq_false_iff_not]; exact hs)]
      by_cases c2 : T i (n + m + 1) / T i k = T p (n + m + 1) / T p k
      ·rw [if_pos (zl2.2 (by grind)), if_pos (by omega), if_pos (by omega), if_pos (by omega), if_pos (by omega), Int.toNat_natCast, y85 hi, y85 (by omega)]
       by_cases c3 : β i < β p
       ·rw [if_pos (by simpa using c3)]
        exact z75 hm hn hR hC hK hg hk hd f (i + 1) _ z (by omega) (by omega) (new (.inr ⟨c2, c3⟩))
       ·rw [if_neg (by simpa using c3)]
        exact z75 hm hn hR hC hK hg hk hd f (i + 1) _ q (by omega) (by omega) (old (.inr ⟨c2, c3⟩))
      ·rw [if_neg fun h => c2 (by have := zl2.1 h; grind)]
       exact z75 hm hn hR hC hK hg hk hd f (i + 1) _ q (by omega) (by omega) (old (.inl (by grind)))
   ·have hdec : decide ((T i k).num.sign ≤ 0) = true := by
     rw [decide_eq_true_eq, w0p]; grind
    rw [if_pos hdec]
    refine z75 hm hn hR hC hK hg hk hd f (i + 1) _ q (by omega) (by omega) ?_
    rcases hL with ⟨e, hno⟩ | ⟨p, hp, e, hp0, hqp, hmin⟩
    ·exact .inl ⟨e, fun j hj => by
       by_cases e : j = i
       · subst e; exact hpos
       · exact hno j (by omega)⟩
    ·exact .inr ⟨p, by omega, e, hp0, hqp, fun j hj hj0 => by
       by_cases e : j = i
       · subst e; exact absurd hj0 hpos
       · exact hmin j (by omega) hj0⟩
  ·rw [if_neg (by simpa using hi)]
   have : i = m := by omega
   subst this
   exact ⟨best, q, rfl, hL⟩
theorem yc1 {R C K m n k : Nat} (hm : m ≤ 100) (hn : n ≤ 100) (hR : m ≤ R) (hC : C = n + m + 2) (hK : K ≤ 4000000) {T : Nat → Nat → Rat} {β : Nat → Nat} {g : List (List Qd)} (hg : QG R C T g) (hk : k < C) (hd : ∀ r, r < R → ∀ q, q < C → Dr K (T r q)) :
  (z35 fuel (g, (bL m β, ((n : Int), (m : Int)))) (k : Int) = some (-1) ∧ ∀ j, j < m → ¬ 0 < T j k) ∨ ∃ p, z35 fuel (g, (bL m β, ((n : Int), (m : Int)))) (k : Int) = some ((p : Nat) : Int) ∧ Lvs m (n + m + 1) β T k p := by
 unfold z35
 obtain ⟨best, q, h1, h2⟩ := z75 (β := β) hm hn hR hC hK hg hk hd fuel 0 (-1) (false, ([], [])) (by omega) (by have := z82 (n := 2 ^ 100) (by decide); omega) (.inl ⟨rfl, fun j hj => by omega⟩)
 have h1 : z10 fuel (g, (bL m β, ((n : Int), (m : Int)))) (k : Int) (-1) (m : Int) 0 false [] [] = some (.exit (best, q.1, q.2.1, q.2.2, ())) := h1
 simp only
 rw [h1]
 rcases h2 with ⟨rfl, h2⟩ | ⟨p, hp, rfl, hp0, hq, hmin⟩
 ·exact .inl ⟨rfl, h2⟩
 ·exact .inr ⟨p, rfl, hp, hp0, hmin⟩
end Go.Proofs.YtcdcoeofhnfjdaaDoor
