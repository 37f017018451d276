/- Linear programs: what the last tableau proves. -/
import Derived.Test.YtcdcoeofhnfjdaaDoorYc
namespace Go.Proofs.YtcdcoeofhnfjdaaDoor
open Go Vm
def lpM (m n : Nat) (A : Nat → Nat → Rat) (b : Nat → Rat) (i k : Nat) : Rat := if k < n then A i k else if k < n + m then one i (k - n) else if k = n + m then -1 else b i
def cst (n : Nat) (c : Nat → Rat) (k : Nat) : Rat := if k < n then c k else 0
def cx (m n : Nat) (k : Nat) : Rat := if k = n + m then -1 else 0
section
variable {m n : Nat} {A : Nat → Nat → Rat} {b : Nat → Rat}
theorem w79 {i k : Nat} (h : k < n) : lpM m n A b i k = A i k := if_pos h
theorem ya0 {i j : Nat} (h : j < m) : lpM m n A b i (n + j) = one i j := by
 unfold lpM
 rw [if_neg (by omega), if_pos (by omega), show n + j - n = j by omega]
theorem w9u {i : Nat} : lpM m n A b i (n + m) = -1 := by
 unfold lpM
 rw [if_neg (by omega), if_neg (by omega), if_pos rfl]
theorem w9t {i : Nat} : lpM m n A b i (n + m + 1) = b i := by
 unfold lpM
 rw [if_neg (by omega), if_neg (by omega), if_neg (by omega)]
theorem yg5 : Bas m (n + m + 2) (lpM m n A b) (fun i r => lpM m n A b i (n + r)) (lpM m n A b) := by
 refine ⟨fun i hi c _ => ?_, ?_⟩
 ·have e : fs (fun r => lpM m n A b i (n + r) * lpM m n A b r c) m = fs (fun r => one i r * lpM m n A b r c) m := z1r fun r hr => by rw [ya0 hr]
  rw [e, y6w hi]
 ·have e : det m (fun i r => lpM m n A b i (n + r)) = det m one := y5a fun i _ r hr => ya0 hr
  rw [e, w3s]; decide
def gol (m : Nat) (c : Nat → Rat) (β : Nat → Nat) (T : Nat → Nat → Rat) (r k : Nat) : Rat := if r = m then fs (fun i => c (β i) * T i k) m - c k else T r k
theorem w62 {N : Nat} {M T : Nat → Nat → Rat} {β : Nat → Nat} (c : Nat → Rat) (h : Bas m N M (fun i r => M i (β r)) T) (hn : n + m ≤ N) (hM : ∀ i, i < m → ∀ j, j < m → M i (n + j) = one i j) (hl : ∀ i, i < m → β i < N) : Tab m n N M c β (gol m c β T) := by
 have er : ∀ r, r < m → ∀ k, gol m c β T r k = T r k := fun r hr k => by unfold gol; rw [if_neg (by omega)]
 refine ⟨⟨fun i hi k hk => ?_, h.nz⟩, hl, ⟨fun j => fs (fun i => c (β i) * T i (n + j)) m, fun k hk => ?_⟩, fun i hi => ?_⟩
 ·rw [← h.eq i hi k hk]
  exact z1r fun r hr => by rw [er r hr]
 ·unfold gol
  rw [if_pos rfl]
  have e1 : fs (fun i => c (β i) * T i k) m = fs (fun i => fs (fun j => c (β i) * T i (n + j) * M j k) m) m := z1r fun i hi => by
   rw [h.comb hn hM hi hk, ← zk1]
   exact z1r fun j _ => by rw [Rat.mul_assoc]
  have e2 : fs (fun j => fs (fun i => c (β i) * T i (n + j)) m * M j k) m = fs (fun j => fs (fun i => c (β i) * T i (n + j) * M j k) m) m := z1r fun j _ => by rw [← y5h]
  rw [e1, e2, y5g]
 ·unfold gol
  rw [if_pos rfl]
  have e1 : fs (fun r => c (β r) * T r (β i)) m = fs (fun r => one i r * c (β r)) m := z1r fun r hr => by
   rw [h.unit hr hi (hl i hi), Rat.mul_comm]
   unfold one
   by_cases e : r = i
   ·rw [if_pos e, if_pos e.symm]
   ·rw [if_neg e, if_neg fun h => e h.symm]
  rw [e1, y6w hi]; grind
theorem Tab.dual {c : Nat → Rat} {β : Nat → Nat} {T : Nat → Nat → Rat} (h : Tab m n (n + m + 2) (lpM m n A b) c β T) (hc : ∀ j, j < m → c (n + j) = 0) {k : Nat} (hk : k < n + m + 2) : T m k = fs (fun j => T m (n + j) * lpM m n A b j k) m - c k := by
 obtain ⟨y, hy⟩ := h.goal
 have hy' : ∀ j, j < m → T m (n + j) = y j := fun j hj => by
  rw [hy (n + j) (by omega), hc j hj]
  have e : fs (fun i => y i * lpM m n A b i (n + j)) m = fs (fun i => one j i * y i) m := z1r fun i _ => by
   rw [ya0 hj, Rat.mul_comm]
   unfold one
   by_cases e : i = j
   ·rw [if_pos e, if_pos e.symm]
   ·rw [if_neg e, if_neg fun h => e h.symm]
  rw [e, y6w hj]; grind
 rw [hy k hk, z1r fun j hj => by rw [← hy' j hj]]
theorem w9y {β : Nat → Nat} {T : Nat → Nat → Rat} (h : Tab m n (n + m + 2) (lpM m n A b) (cx m n) β T) (hpos : ∀ k, k < n + m + 1 → 0 ≤ T m k) (hneg : T m (n + m + 1) < 0) :
  (∀ j, j < m → 0 ≤ T m (n + j)) ∧ (∀ k, k < n → 0 ≤ fs (fun j => T m (n + j) * A j k) m) ∧ fs (fun j => T m (n + j) * b j) m < 0 := by
 have hc : ∀ j, j < m → cx m n (n + j) = 0 := fun j hj => by unfold cx; rw [if_neg (by omega)]
 refine ⟨fun j hj => hpos _ (by omega), fun k hk => ?_, ?_⟩
 ·have h1 := h.dual hc (k := k) (by omega)
  have h2 := hpos k (by omega)
  have e : cx m n k = 0 := by unfold cx; rw [if_neg (by omega)]
  rw [h1, e, z1r fun j _ => by rw [w79 hk]] at h2
  grind
 ·have h1 := h.dual hc (k := n + m + 1) (by omega)
  have e : cx m n (n + m + 1) = 0 := by unfold cx; rw [if_neg (by omega)]
  rw [h1, e, z1r fun j _ => by rw [w9t]] at hneg
  grind
theorem w28 {β : Nat → Nat} {T : Nat → Nat → Rat} (h : Tab m n (n + m + 2) (lpM m n A b) (cx m n) β T) {k : Nat} (hk : k < n + m + 1) (hneg : T m k < 0) (hno : ∀ i, i < m → ¬ 0 < T i k) : False := by
 have h1 := h.red (s := k) (by omega)
 have h2 : 0 ≤ fs (fun i => cx m n (β i) * T i k) m := zr0 fun i hi => by
  unfold cx
  have := hno i hi
  split
  ·grind
  ·grind
 have h3 : cx m n k ≤ 0 := by unfold cx; split <;> decide
 grind
theorem wf6 {β : Nat → Nat} {T : Nat → Nat → Rat} (h : Tab m n (n + m + 2) (lpM m n A b) (cx m n) β T) (hp : ∀ i, i < m → 0 ≤ T i (n + m + 1)) (hv : ¬ T m (n + m + 1) < 0) {i : Nat} (hi : i < m) (he : β i = n + m) : T i (n + m + 1) = 0 := by
 have h1 := h.red (s := n + m + 1) (by omega)
 have e : cx m n (n + m + 1) = 0 := by unfold cx; rw [if_neg (by omega)]
 have h2 := wf3 (f := fun i => -(cx m n (β i) * T i (n + m + 1))) (n := m) (i := i) (fun r hr => by
   unfold cx
   have := hp r hr
   split <;> grind) hi
 rw [y8t] at h2
 have h3 : cx m n (β i) = -1 := by unfold cx; rw [if_pos he]
 have h2 : -(cx m n (β i) * T i (n + m + 1)) ≤ -(fs (fun i => cx m n (β i) * T i (n + m + 1)) m) := h2
 rw [h3] at h2
 have := hp i hi
 grind
theorem w7a {c : Nat → Rat} {β : Nat → Nat} {T : Nat → Nat → Rat} (h : Tab m n (n + m + 2) (lpM m n A b) c β T) {i : Nat} (hi : i < m) (he : β i = n + m) : ∃ k, k < n + m ∧ T i k ≠ 0 := by
 apply Classical.byContradiction
 intro hno
 have h0 : ∀ k, k < n + m → T i k = 0 := fun k hk => Classical.byContradiction fun h => hno ⟨k, hk, h⟩
 have h1 := h.bas.comb (n := n) (by omega) (fun i _ j hj => ya0 hj) hi (k := β i) (h.lt i hi)
 have h2 : fs (fun j => T i (n + j) * lpM m n A b j (β i)) m = fs (fun _ => 0) m := z1r fun j hj => by rw [h0 _ (by omega)]; grind
 rw [h.bas.unit hi hi (h.lt i hi), h2, z43] at h1
 unfold one at h1
 rw [if_pos rfl] at h1
 exact absurd h1 (by decide)
def xv (m : Nat) (β : Nat → Nat) (T : Nat → Nat → Rat) (s v : Nat) : Rat := fs (fun i => if β i = v then T i s else 0) m
theorem w6b {β : Nat → Nat} {T : Nat → Nat → Rat} {s K : Nat} (F : Nat → Rat) (h : ∀ i, i < m → β i < K) : fs (fun v => F v * xv m β T s v) K = fs (fun i => F (β i) * T i s) m := by
 have e1 : fs (fun v => F v * xv m β T s v) K = fs (fun v => fs (fun i => F v * (if β i = v then T i s else 0)) m) K := z1r fun v _ => by unfold xv; rw [zk1]
 rw [e1, y5g]
 refine z1r fun i hi => ?_
 have e2 : fs (fun v => F v * (if β i = v then T i s else 0)) K = fs (fun v => if v = β i then F (β i) * T i s else 0) K := z1r fun v _ => by
  by_cases e : v = β i
  ·rw [if_pos e.symm, if_pos e, e]
  ·rw [if_neg fun h => e h.symm, if_neg e]; grind
 rw [e2, w4b, if_pos (h i hi)]
theorem yq8 {β : Nat → Nat} {T : Nat → Nat → Rat} {s : Nat} (h : ∀ i, i < m → 0 ≤ T i s) (v : Nat) : 0 ≤ xv m β T s v := zr0 fun i hi => by
 split
 ·exact h i hi
 ·exact Rat.le_refl
theorem yg1 {f : Nat → Rat} {n : Nat} : ∀ m : Nat, fs f (n + m) = fs f n + fs (fun j => f (n + j)) m
 | 0 => by simp only [Nat.add_zero, fs]; grind
 | m + 1 => by rw [← Nat.add_assoc, fs, yg1 m, fs]; grind
theorem w3n {c : Nat → Rat} (F : Nat → Rat) : fs (fun v => cst n c v * F v) (n + m) = fs (fun j => c j * F j) n := by
 rw [yg1]
 have e1 : fs (fun v => cst n c v * F v) n = fs (fun j => c j * F j) n := z1r fun j hj => by unfold cst; rw [if_pos hj]
 have e2 : fs (fun j => cst n c (n + j) * F (n + j)) m = fs (fun _ => 0) m := z1r fun j _ => by unfold cst; rw [if_neg (by omega)]; grind
 rw [e1, e2, z43]; grind
theorem w4u {β : Nat → Nat} {T : Nat → Nat → Rat} {c : Nat → Rat} (h : Tab m n (n + m + 2) (lpM m n A b) c β T) (hl : ∀ i, i < m → β i < n + m) {s : Nat} (hs : s < n + m + 2) {i : Nat} (hi : i < m) : fs (fun k => A i k * xv m β T s k) n + xv m β T s (n + i) = lpM m n A b i s := by
 have h1 := h.bas.eq i hi s hs
 have h2 := w6b (T := T) (s := s) (fun k => lpM m n A b i k) hl
 have h2 : fs (fun v => lpM m n A b i v * xv m β T s v) (n + m) = fs (fun r => lpM m n A b i (β r) * T r s) m := h2
 rw [h1, yg1] at h2
 have e1 : fs (fun v => lpM m n A b i v * xv m β T s v) n = fs (fun k => A i k * xv m β T s k) n := z1r fun k hk => by rw [w79 hk]
 have e2 : fs (fun j => lpM m n A b i (n + j) * xv m β T s (n + j)) m = fs (fun j => one i j * xv m β T s (n + j)) m := z1r fun j hj => by rw [ya0 hj]
 rw [e1, e2, y6w hi] at h2
 exact h2
theorem w9w {β : Nat → Nat} {T : Nat → Nat → Rat} {c : Nat → Rat} (h : Tab m n (n + m + 2) (lpM m n A b) c β T) (hl : ∀ i, i < m → β i < n + m) (hp : ∀ i, i < m → 0 ≤ T i (n + m + 1)) : ∀ i, i < m → fs (fun k => A i k * xv m β T (n + m + 1) k) n ≤ b i := fun i hi => by
 have h1 := w4u h hl (s := n + m + 1) (by omega) hi
 have h2 := yq8 (β := β) hp (n + i)
 rw [w9t] at h1
 grind
theorem w9v {β : Nat → Nat} {T : Nat → Nat → Rat} {c : Nat → Rat} (h : Tab m n (n + m + 2) (lpM m n A b) (cst n c) β T) (hl : ∀ i, i < m → β i < n + m) (hpos : ∀ k, k < n + m → 0 ≤ T m k) :
  (∀ j, j < m → 0 ≤ T m (n + j)) ∧ (∀ k, k < n → c k ≤ fs (fun j => T m (n + j) * A j k) m) ∧
   fs (fun j => c j * xv m β T (n + m + 1) j) n = T m (n + m + 1) ∧ fs (fun j => T m (n + j) * b j) m = T m (n + m + 1) := by
 have hc : ∀ j, j < m → cst n c (n + j) = 0 := fun j hj => by unfold cst; rw [if_neg (by omega)]
 have ec : cst n c (n + m + 1) = 0 := by unfold cst; rw [if_neg (by omega)]
 refine ⟨fun j hj => hpos _ (by omega), fun k hk => ?_, ?_, ?_⟩
 ·have h1 := h.dual hc (k := k) (by omega)
  have h2 := hpos k (by omega)
  have e : cst n c k = c k := by unfold cst; rw [if_pos hk]
  rw [h1, e, z1r fun j _ => by rw [w79 hk]] at h2
  grind
 ·rw [← w3n (m := m), w6b (cst n c) hl, h.red (s := n + m + 1) (by omega), ec]; grind
 ·have h1 := h.dual hc (k := n + m + 1) (by omega)
  rw [ec, z1r fun j _ => by rw [w9t]] at h1
  rw [h1]; grind
def ryv (m k : Nat) (β : Nat → Nat) (T : Nat → Nat → Rat) (v : Nat) : Rat := (if v = k then 1 else 0) - xv m β T k v
theorem w9x {β : Nat → Nat} {T : Nat → Nat → Rat} {c : Nat → Rat} (h : Tab m n (n + m + 2) (lpM m n A b) (cst n c) β T) (hl : ∀ i, i < m → β i < n + m) {k : Nat} (hk : k < n + m) (hneg : T m k < 0) (hno : ∀ i, i < m → ¬ 0 < T i k) :
  (∀ v, 0 ≤ ryv m k β T v) ∧ (∀ i, i < m → fs (fun v => A i v * ryv m k β T v) n ≤ 0) ∧ 0 < fs (fun v => c v * ryv m k β T v) n := by
 have hx : ∀ v, xv m β T k v ≤ 0 := fun v => by
  have := zr0 (f := fun i => -(if β i = v then T i k else 0)) (n := m) fun i hi => by
   have := hno i hi
   split <;> grind
  rw [y8t] at this
  unfold xv; grind
 have hr : ∀ v, 0 ≤ ryv m k β T v := fun v => by
  have := hx v
  unfold ryv
  split <;> grind
 have hat : ∀ F : Nat → Rat, ∀ K, fs (fun v => F v * ryv m k β T v) K = (if k < K then F k else 0) - fs (fun v => F v * xv m β T k v) K := fun F K => by
  have e : fs (fun v => F v * ryv m k β T v) K = fs (fun v => (if v = k then F k else 0) - F v * xv m β T k v) K := z1r fun v _ => by
   unfold ryv
   by_cases e : v = k
   ·rw [if_pos e, if_pos e, e]; grind
   ·rw [if_neg e, if_neg e]; grind
  rw [e, w07, w4b]
 refine ⟨hr, fun i hi => ?_, ?_⟩
 ·have h1 := w4u h hl (s := k) (by omega) hi
  rw [hat]
  have h2 := hx (n + i)
  by_cases c : k < n
  ·rw [if_pos c]
   rw [w79 c] at h1
   grind
  ·rw [if_neg c]
   have e : lpM m n A b i k = one i (k - n) := by
    have := ya0 (m := m) (n := n) (A := A) (b := b) (i := i) (j := k - n) (by omega)
    rwa [show n + (k - n) = k by omega] at this
   rw [e] at h1
   have hr2 := hr (n + i)
   unfold ryv at hr2
   unfold one at h1
   by_cases e2 : i = k - n
   ·rw [if_pos e2] at h1
    rw [if_pos (by omega)] at hr2
    grind
   ·rw [if_neg e2] at h1
    grind
 ·have h1 := h.red (s := k) (by omega)
  rw [← w6b (cst n c) hl, w3n] at h1
  rw [hat]
  unfold cst at h1
  grind
end
end Go.Proofs.YtcdcoeofhnfjdaaDoor
