/- Elimination, as a function of the numbers. -/
import Derived.Test.YtnhdjbbdgegkgaaDoorVf
namespace Go.Proofs.YtnhdjbbdgegkgaaDoor
open Go Vm
def fnd (T : Nat → Nat → Rat) (k : Nat) : Nat → Nat → Nat
 | 0, i => i
 | m + 1, i => if T i k = 0 then fnd T k m (i + 1) else i
theorem fnd_le {T : Nat → Nat → Rat} {k : Nat} : ∀ {m i : Nat}, i ≤ fnd T k m i ∧ fnd T k m i ≤ i + m
 | 0, i => ⟨Nat.le_refl _, Nat.le_refl _⟩
 | m + 1, i => by
  rw [fnd]
  split
  ·have := fnd_le (T := T) (k := k) (m := m) (i := i + 1)
   omega
  ·omega
theorem fnd_ne {T : Nat → Nat → Rat} {k : Nat} : ∀ {m i : Nat}, fnd T k m i < i + m → T (fnd T k m i) k ≠ 0
 | 0, i, h => by rw [fnd] at h; omega
 | m + 1, i, h => by
  rw [fnd] at h ⊢
  by_cases c : T i k = 0
  ·rw [if_pos c] at h ⊢
   exact fnd_ne (by omega)
  ·rw [if_neg c]; exact c
theorem fnd_ext {T T' : Nat → Nat → Rat} {k : Nat} (h : ∀ r, T r k = T' r k) : ∀ {m i : Nat}, fnd T k m i = fnd T' k m i
 | 0, i => rfl
 | m + 1, i => by rw [fnd, fnd, h i, fnd_ext h]
def stp (a i k : Nat) (T : Nat → Nat → Rat) : Nat → Nat → Rat := piv a k fun r c => T (sw a i r) c
def el (R : Nat) : Nat → Nat → Nat → (Nat → Nat → Rat) → Nat × (Nat → Nat → Rat)
 | 0, _, a, T => (a, T)
 | s + 1, k, a, T => if fnd T k (R - a) a = R then el R s (k + 1) a T else el R s (k + 1) (a + 1) (stp a (fnd T k (R - a) a) k T)
theorem el_le {R : Nat} : ∀ {s k a : Nat} {T : Nat → Nat → Rat}, a ≤ R → a ≤ (el R s k a T).1 ∧ (el R s k a T).1 ≤ a + s ∧ (el R s k a T).1 ≤ R
 | 0, k, a, T, h => ⟨Nat.le_refl _, Nat.le_refl _, h⟩
 | s + 1, k, a, T, h => by
  rw [el]
  by_cases c : fnd T k (R - a) a = R
  ·rw [if_pos c]
   have := el_le (s := s) (k := k + 1) (T := T) h
   omega
  ·rw [if_neg c]
   have h1 := fnd_le (T := T) (k := k) (m := R - a) (i := a)
   have := el_le (R := R) (s := s) (k := k + 1) (a := a + 1) (T := stp a (fnd T k (R - a) a) k T) (by omega)
   omega
theorem el_ext {R n : Nat} : ∀ {s k a : Nat} {T T' : Nat → Nat → Rat}, (∀ r c, c < n → T r c = T' r c) → k + s ≤ n → (el R s k a T).1 = (el R s k a T').1
 | 0, k, a, T, T', _, _ => rfl
 | s + 1, k, a, T, T', h, hs => by
  rw [el, el, fnd_ext (T := T) (T' := T') fun r => h r k (by omega)]
  split
  ·exact el_ext (n := n) h (by omega)
  ·refine el_ext (n := n) (fun r c hc => ?_) (by omega)
   unfold stp piv
   simp only [h _ c hc, h _ k (show k < n by omega)]
theorem el_unit {R : Nat} : ∀ {s k : Nat} {T : Nat → Nat → Rat}, k ≤ R → (∀ r c, c < k → T r c = one r c) → (el R s k k T).1 = k + s → ∀ r c, c < k + s → (el R s k k T).2 r c = one r c
 | 0, k, T, _, h, _ => h
 | s + 1, k, T, hk, h, he => by
  rw [el] at he ⊢
  by_cases c : fnd T k (R - k) k = R
  ·rw [if_pos c] at he
   have := el_le (s := s) (k := k + 1) (T := T) hk
   omega
  ·rw [if_neg c] at he ⊢
   have h1 := fnd_le (T := T) (k := k) (m := R - k) (i := k)
   have h2 := fnd_ne (T := T) (k := k) (m := R - k) (i := k) (by omega)
   rw [show k + (s + 1) = k + 1 + s by omega] at he ⊢
   refine el_unit (by omega) (fun r c hc => ?_) he
   generalize fnd T k (R - k) k = i at h1 h2
   have ek : sw k i k = i := by unfold sw; rw [if_pos rfl]
   have es : ∀ r c, c < k → T (sw k i r) c = one r c := fun r c hc => by
    rw [h _ c hc]
    unfold one sw
    by_cases e1 : r = k
    ·rw [if_pos e1, if_neg (by omega), if_neg (by omega)]
    ·rw [if_neg e1]
     by_cases e2 : r = i
     ·rw [if_pos e2, if_neg (by omega), if_neg (by omega)]
     ·rw [if_neg e2]
   show piv k k (fun r c => T (sw k i r) c) r c = one r c
   unfold piv
   show (if r = k then T (sw k i k) c / T (sw k i k) k else T (sw k i r) c - T (sw k i r) k * (T (sw k i k) c / T (sw k i k) k)) = one r c
   rw [ek]
   by_cases e : c = k
   ·rw [e]
    have hd : T i k / T i k = 1 := by rw [Rat.div_def]; exact Rat.mul_inv_cancel _ h2
    rw [hd]
    unfold one
    by_cases e1 : r = k
    ·rw [if_pos e1, if_pos e1]
    ·rw [if_neg e1, if_neg e1]; grind
   ·have h0 : T i c = 0 := by
     have := es k c (by omega)
     rw [ek] at this
     rw [this]
     unfold one
     rw [if_neg (by omega)]
    rw [h0, es r c (by omega)]
    have hz : (0 : Rat) / T i k = 0 := by rw [Rat.div_def]; grind
    rw [hz]
    by_cases e1 : r = k
    ·rw [if_pos e1]
     unfold one
     rw [if_neg (by omega)]
    ·rw [if_neg e1]; grind
theorem Bas.stp {m N : Nat} {M B T : Nat → Nat → Rat} (h : Bas m N M B T) (hc : Cls m N M B) {a i k : Nat} (ha : a < m) (hi : i < m) (hk : k < N) (h0 : T i k ≠ 0) :
  Bas m N M (upd a (fun i => M i k) fun q r => B q (sw a i r)) (stp a i k T) ∧ Cls m N M (upd a (fun i => M i k) fun q r => B q (sw a i r)) :=
 ⟨(h.swap ha hi).pivot ha hk (by rw [show sw a i a = i by unfold sw; rw [if_pos rfl]]; exact h0), (hc.swap ha hi).pivot hk⟩
theorem QG.swap {R C : Nat} {M : Nat → Nat → Rat} {g : List (List Qd)} (h : QG R C M g) {a i : Nat} (ha : a < R) (hi : i < R) : QG R C (fun r c => M (sw a i r) c) ((g.set a (g.getD i [])).set i (g.getD a [])) := by
 refine ⟨by rw [List.length_set, List.length_set]; exact h.1, fun r hr => ?_⟩
 show QF C (M (sw a i r)) _
 have hl := h.1
 unfold sw
 by_cases e1 : r = i
 ·subst e1
  rw [getD_set_same _ _ _ (by rw [List.length_set]; omega)]
  by_cases e2 : r = a
  ·rw [if_pos e2, e2]; exact h.2 a ha
  ·rw [if_neg e2, if_pos rfl]; exact h.2 a ha
 ·rw [getD_set_other _ _ e1]
  by_cases e2 : r = a
  ·rw [if_pos e2, e2, getD_set_same _ _ _ (by omega)]; exact h.2 i hi
  ·rw [if_neg e2, if_neg e1, getD_set_other _ _ e2]; exact h.2 r hr
end Go.Proofs.YtnhdjbbdgegkgaaDoor
