/- Determinants: linear and alternating in the columns; Cramer's rule. -/
import Derived.Test.YtcdcoeofhnfjdaaDoorXc
namespace Go.Proofs.YtcdcoeofhnfjdaaDoor
open Go Vm
def mi (j k : Nat) : Nat := if k < j then k else k + 1
def sg (j : Nat) : Rat := if j % 2 = 0 then 1 else -1
theorem wa7 (j : Nat) : sg (j + 1) = - sg j := by
 unfold sg
 by_cases h : j % 2 = 0
 ·rw [if_pos h, if_neg (by omega)]
 ·rw [if_neg h, if_pos (by omega)]; grind
def det : Nat → (Nat → Nat → Rat) → Rat
 | 0, _ => 1
 | n + 1, M => fs (fun j => sg j * M 0 j * det n fun i k => M (i + 1) (mi j k)) (n + 1)
def upd (c : Nat) (v : Nat → Rat) (M : Nat → Nat → Rat) (i k : Nat) : Rat := if k = c then v i else M i k
theorem wf8 {j k n : Nat} (h : k < n) : mi j k < n + 1 := by unfold mi; split <;> omega
theorem y5a : ∀ {n : Nat} {M M' : Nat → Nat → Rat}, (∀ i, i < n → ∀ k, k < n → M i k = M' i k) → det n M = det n M'
 | 0, _, _, _ => rfl
 | n + 1, M, M', h => z1r fun j hj => by
  rw [h 0 (by omega) j hj, y5a fun i hi k hk => h (i + 1) (by omega) (mi j k) (wf8 hk)]
def dn (j c : Nat) : Nat := if c < j then c else c - 1
theorem wf7 {j c k : Nat} (h : c ≠ j) : mi j k = c ↔ k = dn j c := by
 unfold mi dn
 by_cases h1 : k < j <;> by_cases h2 : c < j
 ·rw [if_pos h1, if_pos h2]
 ·rw [if_pos h1, if_neg h2]; omega
 ·rw [if_neg h1, if_pos h2]; omega
 ·rw [if_neg h1, if_neg h2]; omega
theorem wj0 (j k : Nat) : mi j k ≠ j := by unfold mi; split <;> omega
theorem wi4 {j c n : Nat} (h : c ≠ j) (hc : c < n + 1) (hj : j < n + 1) : dn j c < n := by unfold dn; split <;> omega
theorem y93 {j c : Nat} (h : c ≠ j) (v : Nat → Rat) (M : Nat → Nat → Rat) : (fun i k => upd c v M (i + 1) (mi j k)) = upd (dn j c) (fun i => v (i + 1)) fun i k => M (i + 1) (mi j k) := by
 funext i k
 unfold upd
 by_cases e : mi j k = c
 ·rw [if_pos e, if_pos ((wf7 h).1 e)]
 ·rw [if_neg e, if_neg fun e' => e ((wf7 h).2 e')]
theorem zo8 (c : Nat) (v : Nat → Rat) (M : Nat → Nat → Rat) : (fun i k => upd c v M (i + 1) (mi c k)) = fun i k => M (i + 1) (mi c k) := by
 funext i k
 unfold upd
 rw [if_neg (wj0 c k)]
theorem zo4 : ∀ {n c : Nat}, c < n → ∀ (a b : Rat) (u v : Nat → Rat) (M : Nat → Nat → Rat), det n (upd c (fun i => a * u i + b * v i) M) = a * det n (upd c u M) + b * det n (upd c v M)
 | 0, _, h, _, _, _, _, _ => by omega
 | n + 1, c, hc, a, b, u, v, M => by
  show fs _ (n + 1) = a * fs _ (n + 1) + b * fs _ (n + 1)
  rw [← zk1, ← zk1, ← yb9]
  refine z1r fun j hj => ?_
  by_cases e : c = j
  ·subst e
   rw [zo8, zo8, zo8]
   have h1 : ∀ w : Nat → Rat, upd c w M 0 c = w 0 := fun w => if_pos rfl
   rw [h1, h1, h1]; grind
  ·rw [y93 e, y93 e, y93 e]
   have h1 : ∀ w : Nat → Rat, upd c w M 0 j = M 0 j := fun w => if_neg fun h => e h.symm
   rw [h1, h1, h1, zo4 (wi4 e hc hj) a b (fun i => u (i + 1)) (fun i => v (i + 1))]; grind
theorem w87 {f : Nat → Rat} {c : Nat} : ∀ {n : Nat}, c + 1 < n → (∀ j, j < n → j ≠ c → j ≠ c + 1 → f j = 0) → f c + f (c + 1) = 0 → fs f n = 0
 | 0, h, _, _ => by omega
 | n + 1, h, h0, h2 => by
  rw [fs]
  by_cases e : n = c + 1
  ·subst e
   rw [fs]
   have : fs f c = 0 := by rw [z1r (g := fun _ => 0) fun j hj => h0 j (by omega) (by omega) (by omega), z43]
   rw [this]; grind
  ·rw [w87 (by omega) (fun j hj => h0 j (by omega)) h2, h0 n (by omega) (by omega) e]; grind
theorem yf4 : ∀ {n c : Nat}, c + 1 < n → ∀ {M : Nat → Nat → Rat}, (∀ i, i < n → M i c = M i (c + 1)) → det n M = 0
 | 0, _, h, _, _ => by omega
 | n + 1, c, hc, M, h => by
  refine w87 (c := c) hc (fun j hj h1 h2 => ?_) ?_
  ·have h0 : det n (fun i k => M (i + 1) (mi j k)) = 0 := by
    by_cases hj2 : j < c
    ·refine yf4 (c := c - 1) (by omega) fun i hi => ?_
     have e1 : mi j (c - 1) = c := by unfold mi; rw [if_neg (by omega)]; omega
     have e2 : mi j (c - 1 + 1) = c + 1 := by unfold mi; rw [if_neg (by omega)]; omega
     rw [e1, e2]; exact h (i + 1) (by omega)
    ·refine yf4 (c := c) (by omega) fun i hi => ?_
     have e1 : mi j c = c := by unfold mi; rw [if_pos (by omega)]
     have e2 : mi j (c + 1) = c + 1 := by unfold mi; rw [if_pos (by omega)]
     rw [e1, e2]; exact h (i + 1) (by omega)
   rw [h0, Rat.mul_zero]
  ·have e : det n (fun i k => M (i + 1) (mi (c + 1) k)) = det n (fun i k => M (i + 1) (mi c k)) := y5a fun i hi k hk => by
    by_cases hk1 : k = c
    ·subst hk1
     have e1 : mi (k + 1) k = k := by unfold mi; rw [if_pos (by omega)]
     have e2 : mi k k = k + 1 := by unfold mi; rw [if_neg (by omega)]
     rw [e1, e2]; exact h (i + 1) (by omega)
    ·have : mi (c + 1) k = mi c k := by
      unfold mi
      by_cases h3 : k < c
      ·rw [if_pos h3, if_pos (by omega)]
      ·rw [if_neg h3, if_neg (by omega)]
     rw [this]
   rw [e, wa7, h 0 (by omega)]; grind
theorem w6p {n c : Nat} (hc : c + 1 < n) (u v : Nat → Rat) (M : Nat → Nat → Rat) : det n (upd c u (upd (c + 1) v M)) = - det n (upd c v (upd (c + 1) u M)) := by
 have comm : ∀ (x y : Nat → Rat), upd c x (upd (c + 1) y M) = upd (c + 1) y (upd c x M) := fun x y => by
  funext i k
  unfold upd
  by_cases e1 : k = c
  ·rw [if_pos e1, if_neg (by omega), if_pos e1]
  ·rw [if_neg e1]
   by_cases e2 : k = c + 1
   ·rw [if_pos e2, if_pos e2]
   ·rw [if_neg e2, if_neg e2, if_neg e1]
 have same : ∀ x : Nat → Rat, det n (upd c x (upd (c + 1) x M)) = 0 := fun x => yf4 hc fun i _ => by
  unfold upd
  rw [if_pos rfl, if_neg (by omega), if_pos rfl]
 have h1 := same fun i => 1 * u i + 1 * v i
 rw [zo4 (by omega), comm, comm, zo4 hc, zo4 hc, ← comm, ← comm, ← comm, ← comm, same, same] at h1
 grind
theorem zv5 (c : Nat) (M : Nat → Nat → Rat) : upd c (fun i => M i c) M = M := by
 funext i k
 unfold upd
 by_cases e : k = c
 ·rw [if_pos e, e]
 ·rw [if_neg e]
theorem w3r : ∀ {n : Nat} (g : Nat) {c d : Nat}, d = c + g + 1 → d < n → ∀ {M : Nat → Nat → Rat}, (∀ i, i < n → M i c = M i d) → det n M = 0
 | n, 0, c, d, hd, hn, M, h => by
  subst hd
  exact yf4 hn h
 | n, g + 1, c, d, hd, hn, M, h => by
  obtain ⟨e, rfl⟩ : ∃ e, d = e + 1 := ⟨c + (g + 1), by omega⟩
  have h1 := w6p (c := e) hn (fun i => M i e) (fun i => M i (e + 1)) M
  rw [zv5 (e + 1) M, zv5 e M] at h1
  have h2 : det n (upd e (fun i => M i (e + 1)) (upd (e + 1) (fun i => M i e) M)) = 0 := w3r g (c := c) (d := e) (by omega) (by omega) fun i hi => by
   unfold upd
   rw [if_neg (by omega), if_neg (by omega), if_pos rfl]
   exact h i hi
  rw [h1, h2]; grind
theorem yf5 {n c d : Nat} (hc : c < n) (hd : d < n) (hne : c ≠ d) {M : Nat → Nat → Rat} (h : ∀ i, i < n → M i c = M i d) : det n M = 0 := by
 rcases Nat.lt_or_gt_of_ne hne with h1 | h1
 ·exact w3r (d - c - 1) (by omega) hd h
 ·exact w3r (c - d - 1) (by omega) hc fun i hi => (h i hi).symm
theorem w3t {n c : Nat} (hc : c < n) (M : Nat → Nat → Rat) (x : Nat → Rat) : ∀ m : Nat, m ≤ n → det n (upd c (fun i => fs (fun j => M i j * x j) m) M) = fs (fun j => if j = c then x c * det n M else 0) m
 | 0, _ => by
  have h := zo4 hc 0 0 (fun _ => 0) (fun _ => 0) M
  have e : (fun i : Nat => (0 : Rat) * (fun _ => 0) i + 0 * (fun _ => 0) i) = fun i => fs (fun j => M i j * x j) 0 := by funext i; simp only [fs]; grind
  rw [e] at h
  rw [h]; simp only [fs]; grind
 | m + 1, hm => by
  have e : (fun i => fs (fun j => M i j * x j) (m + 1)) = fun i => 1 * (fun i => fs (fun j => M i j * x j) m) i + x m * (fun i => M i m) i := by funext i; simp only [fs]; grind
  rw [e, zo4 hc, w3t hc M x m (by omega), fs]
  by_cases h : m = c
  ·subst h
   rw [zv5, if_pos rfl]; grind
  ·have : det n (upd c (fun i => M i m) M) = 0 := yf5 hc (show m < n by omega) (fun e => h e.symm) fun i _ => by
    unfold upd
    rw [if_pos rfl, if_neg h]
   rw [this, if_neg h]; grind
theorem w4b {c : Nat} {v : Rat} : ∀ {n : Nat}, fs (fun j => if j = c then v else 0) n = if c < n then v else 0
 | 0 => by simp [fs]
 | n + 1 => by
  rw [fs, w4b]
  by_cases h : n = c
  ·subst h; rw [if_neg (by omega), if_pos rfl, if_pos (by omega)]; grind
  ·rw [if_neg h]
   by_cases h2 : c < n
   ·rw [if_pos h2, if_pos (by omega)]; grind
   ·rw [if_neg h2, if_neg (by omega)]; grind
theorem w3m {n c : Nat} (hc : c < n) {M : Nat → Nat → Rat} {x b : Nat → Rat} (h : ∀ i, i < n → fs (fun j => M i j * x j) n = b i) : det n (upd c b M) = x c * det n M := by
 have e : det n (upd c b M) = det n (upd c (fun i => fs (fun j => M i j * x j) n) M) := y5a fun i hi k _ => by
  unfold upd
  split
  ·exact (h i hi).symm
  ·rfl
 rw [e, w3t hc M x n (Nat.le_refl _), w4b, if_pos hc]
end Go.Proofs.YtcdcoeofhnfjdaaDoor
