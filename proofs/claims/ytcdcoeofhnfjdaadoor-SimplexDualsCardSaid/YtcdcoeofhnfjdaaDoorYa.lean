/- Tableaus: a basis of columns, a row of the goal, and pivots. -/
import Derived.Test.YtcdcoeofhnfjdaaDoorVf
namespace Go.Proofs.YtcdcoeofhnfjdaaDoor
open Go Vm
theorem Bas.zero {m N : Nat} {M B R : Nat → Nat → Rat} (h : Bas m N M B R) {x : Nat → Rat} (h0 : ∀ i, i < m → fs (fun r => B i r * x r) m = 0) {r : Nat} (hr : r < m) : x r = 0 := by
 have h1 := w3m (x := x) (b := fun _ => 0) hr h0
 have h2 := zo4 hr 0 0 (fun _ => 0) (fun _ => 0) B
 have e : (fun _ : Nat => (0 : Rat) * (fun _ => 0) (0 : Nat) + 0 * (fun _ => 0) (0 : Nat)) = fun _ => 0 := by funext _; grind
 have h2 : det m (upd r (fun _ => 0) B) = 0 := by
  have e2 : (fun i : Nat => (0 : Rat) * (fun _ => 0) i + 0 * (fun _ => 0) i) = fun _ => 0 := by funext _; grind
  rw [e2] at h2
  rw [h2]; grind
 rw [h2] at h1
 rcases Rat.mul_eq_zero.1 h1.symm with h | h'
 ·exact h
 ·exact absurd h' h.nz
theorem Bas.uniq {m N : Nat} {M B R : Nat → Nat → Rat} (h : Bas m N M B R) {x x' : Nat → Rat} (h0 : ∀ i, i < m → fs (fun r => B i r * x r) m = fs (fun r => B i r * x' r) m) {r : Nat} (hr : r < m) : x r = x' r := by
 have := h.zero (x := fun r => x r + (-1) * x' r) (fun i hi => by
   have e : (fun r => B i r * (x r + (-1) * x' r)) = fun r => B i r * x r + (-1) * (B i r * x' r) := by funext r; grind
   rw [e, yb9, zk1, h0 i hi]; grind) hr
 grind
theorem y8t {f : Nat → Rat} (n : Nat) : fs (fun i => -(f i)) n = -(fs f n) := by
 have e : (fun i => -(f i)) = fun i => (-1) * f i := by funext i; grind
 rw [e, zk1]; grind
theorem w07 {f g : Nat → Rat} (n : Nat) : fs (fun i => f i - g i) n = fs f n - fs g n := by
 have e : (fun i => f i - g i) = fun i => f i + (-(g i)) := by funext i; grind
 rw [e, yb9, y8t]; grind
structure Tab (m n N : Nat) (M : Nat → Nat → Rat) (c : Nat → Rat) (β : Nat → Nat) (T : Nat → Nat → Rat) : Prop where
 bas : Bas m N M (fun i r => M i (β r)) T
 lt : ∀ i, i < m → β i < N
 goal : ∃ y : Nat → Rat, ∀ k, k < N → T m k = fs (fun j => y j * M j k) m - c k
 zero : ∀ i, i < m → T m (β i) = 0
section
variable {m n N : Nat} {M : Nat → Nat → Rat} {c : Nat → Rat} {β : Nat → Nat} {T : Nat → Nat → Rat}
theorem Bas.unit (h : Bas m N M (fun i r => M i (β r)) T) {r i : Nat} (hr : r < m) (hi : i < m) (hN : β i < N) : T r (β i) = one r i :=
 h.uniq (x := fun r => T r (β i)) (x' := fun r => one r i) (fun j hj => by
   rw [h.eq j hj _ hN]
   have e : fs (fun r => M j (β r) * one r i) m = fs (fun r => one i r * M j (β r)) m := z1r fun r _ => by
     rw [Rat.mul_comm]
     unfold one
     by_cases e : r = i
     · rw [if_pos e, if_pos e.symm]
     · rw [if_neg e, if_neg fun h => e h.symm]
   rw [e, y6w hi]) hr
theorem Bas.inj (h : Bas m N M (fun i r => M i (β r)) T) {r i : Nat} (hr : r < m) (hi : i < m) (e : β r = β i) : r = i := by
 apply Decidable.byContradiction
 intro hne
 exact h.nz (yf5 hr hi hne fun j _ => by rw [e])
theorem Bas.comb (h : Bas m N M (fun i r => M i (β r)) T) (hn : n + m ≤ N) (hM : ∀ i, i < m → ∀ j, j < m → M i (n + j) = one i j) {r : Nat} (hr : r < m) {k : Nat} (hk : k < N) : T r k = fs (fun j => T r (n + j) * M j k) m := by
 refine h.uniq (x := fun r => T r k) (x' := fun r => fs (fun j => T r (n + j) * M j k) m) (fun i hi => ?_) hr
 rw [h.eq i hi k hk]
 have e : ∀ r, M i (β r) * fs (fun j => T r (n + j) * M j k) m = fs (fun j => M i (β r) * T r (n + j) * M j k) m := fun r => by
  rw [← zk1]
  exact z1r fun j _ => by rw [Rat.mul_assoc]
 have e1 : fs (fun r => M i (β r) * fs (fun j => T r (n + j) * M j k) m) m = fs (fun r => fs (fun j => M i (β r) * T r (n + j) * M j k) m) m := z1r fun r _ => e r
 rw [e1, y5g]
 have e2 : fs (fun j => fs (fun r => M i (β r) * T r (n + j) * M j k) m) m = fs (fun j => one i j * M j k) m := z1r fun j hj => by
  rw [y5h, h.eq i hi (n + j) (by omega), hM i hi j hj]
 rw [e2, y6w hi]
def ub (p k : Nat) (β : Nat → Nat) (r : Nat) : Nat := if r = p then k else β r
theorem Bas.pivot' (h : Bas m N M (fun i r => M i (β r)) T) {p k : Nat} (hp : p < m) (hk : k < N) (h0 : T p k ≠ 0) : Bas m N M (fun i r => M i (ub p k β r)) (piv p k T) := by
 have := h.pivot hp hk h0
 have e : upd p (fun i => M i k) (fun i r => M i (β r)) = fun i r => M i (ub p k β r) := by
  funext i r
  unfold upd ub
  by_cases e : r = p
  ·rw [if_pos e, if_pos e]
  ·rw [if_neg e, if_neg e]
 rwa [e] at this
theorem Tab.pivot (h : Tab m n N M c β T) (hn : n + m ≤ N) (hM : ∀ i, i < m → ∀ j, j < m → M i (n + j) = one i j) {p k : Nat} (hp : p < m) (hk : k < N) (h0 : T p k ≠ 0) : Tab m n N M c (ub p k β) (piv p k T) := by
 refine ⟨h.bas.pivot' hp hk h0, fun i hi => ?_, ?_, fun i hi => ?_⟩
 ·unfold ub
  split
  ·exact hk
  ·exact h.lt i hi
 ·obtain ⟨y, hy⟩ := h.goal
  refine ⟨fun j => y j - T m k / T p k * T p (n + j), fun q hq => ?_⟩
  unfold piv
  rw [if_neg (by omega), hy q hq, h.bas.comb hn hM hp hq]
  have e : (fun j => (y j - T m k / T p k * T p (n + j)) * M j q) = fun j => y j * M j q - (T m k / T p k) * (T p (n + j) * M j q) := by funext j; grind
  rw [e, w07, zk1]
  simp only [Rat.div_def]; grind
 ·unfold piv
  rw [if_neg (by omega)]
  by_cases e : i = p
  ·have : ub p k β i = k := by unfold ub; rw [if_pos e]
   rw [this, Rat.div_def, Rat.mul_inv_cancel _ h0]; grind
  ·have : ub p k β i = β i := by unfold ub; rw [if_neg e]
   rw [this, h.zero i hi, h.bas.unit hp hi (h.lt i hi)]
   unfold one
   rw [if_neg fun h => e h.symm, Rat.div_def]; grind
theorem Bas.red (h : Bas m N M (fun i r => M i (β r)) T) (hl : ∀ i, i < m → β i < N) {g y : Nat → Rat} (hg : ∀ k, k < N → g k = fs (fun j => y j * M j k) m - c k) {s : Nat} (hs : s < N) : g s - fs (fun i => g (β i) * T i s) m = fs (fun i => c (β i) * T i s) m - c s := by
 have e1 : fs (fun i => g (β i) * T i s) m = fs (fun i => fs (fun j => y j * (M j (β i) * T i s)) m - c (β i) * T i s) m := z1r fun i hi => by
  rw [hg _ (hl i hi)]
  have : fs (fun j => y j * (M j (β i) * T i s)) m = fs (fun j => y j * M j (β i)) m * T i s := by
   rw [← y5h]
   exact z1r fun j _ => by rw [Rat.mul_assoc]
  rw [this]; grind
 have e2 : fs (fun i => fs (fun j => y j * (M j (β i) * T i s)) m) m = fs (fun j => y j * M j s) m := by
  rw [y5g]
  refine z1r fun j hj => ?_
  rw [zk1, h.eq j hj s hs]
 rw [e1, w07, e2, hg s hs]; grind
theorem Tab.red (h : Tab m n N M c β T) {s : Nat} (hs : s < N) : T m s = fs (fun i => c (β i) * T i s) m - c s := by
 obtain ⟨y, hy⟩ := h.goal
 have := h.bas.red h.lt hy hs
 have e : fs (fun i => T m (β i) * T i s) m = fs (fun _ => 0) m := z1r fun i hi => by rw [h.zero i hi]; grind
 rw [e, z43] at this
 grind
theorem Tab.two {β' : Nat → Nat} {T' : Nat → Nat → Rat} (h : Tab m n N M c β T) (h' : Tab m n N M c β' T') {s : Nat} (hs : s < N) : T' m s - fs (fun i => T' m (β i) * T i s) m = T m s := by
 obtain ⟨y, hy⟩ := h'.goal
 rw [h.bas.red h.lt hy hs, h.red hs]
end
end Go.Proofs.YtcdcoeofhnfjdaaDoor
