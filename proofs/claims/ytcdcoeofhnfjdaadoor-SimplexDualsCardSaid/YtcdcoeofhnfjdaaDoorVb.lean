/- Bases: rows exchanged, pivots; how large the numbers of a tableau can be. -/
import Derived.Test.YtcdcoeofhnfjdaaDoorVa
import Derived.Test.YtcdcoeofhnfjdaaDoorZd
namespace Go.Proofs.YtcdcoeofhnfjdaaDoor
open Go Vm
theorem w6o {n c d : Nat} (hc : c < n) (hd : d < n) (hne : c ≠ d) (u v : Nat → Rat) (M : Nat → Nat → Rat) : det n (upd c u (upd d v M)) = - det n (upd c v (upd d u M)) := by
 have comm : ∀ (x y : Nat → Rat), upd c x (upd d y M) = upd d y (upd c x M) := fun x y => by
  funext i k
  unfold upd
  by_cases e1 : k = c
  ·rw [if_pos e1, if_neg (fun e => hne (e1.symm.trans e)), if_pos e1]
  ·rw [if_neg e1]
   by_cases e2 : k = d
   ·rw [if_pos e2, if_pos e2]
   ·rw [if_neg e2, if_neg e2, if_neg e1]
 have same : ∀ x : Nat → Rat, det n (upd c x (upd d x M)) = 0 := fun x => yf5 hc hd hne fun i _ => by
  unfold upd
  rw [if_pos rfl, if_neg (fun e => hne e.symm), if_pos rfl]
 have h1 := same fun i => 1 * u i + 1 * v i
 rw [zo4 hc, comm, comm, zo4 hd, zo4 hd, ← comm, ← comm, ← comm, ← comm, same, same] at h1
 grind
structure Bas (m N : Nat) (M B R : Nat → Nat → Rat) : Prop where
 eq : ∀ i, i < m → ∀ c, c < N → fs (fun r => B i r * R r c) m = M i c
 nz : det m B ≠ 0
def sw (p q r : Nat) : Nat := if r = p then q else if r = q then p else r
theorem wj7 {p q r m : Nat} (hp : p < m) (hq : q < m) (hr : r < m) : sw p q r < m := by unfold sw; split; exact hq; split; exact hp; exact hr
theorem w9j {f : Nat → Rat} {p q : Nat} : ∀ {m : Nat}, p < m → q < m → fs (fun r => f (sw p q r)) m = fs f m := by
 have one : ∀ {f : Nat → Rat} {p v : Nat} {w : Rat} {m : Nat}, p < m → (∀ r, r ≠ p → f r = f r) → fs (fun r => if r = p then w else f r) m = fs f m - f p + w := by
  intro f p v w m
  induction m with
  | zero => intro h; omega
  | succ m ih =>
   intro h _
   rw [fs, fs]
   by_cases e : m = p
   ·subst e
    rw [if_pos rfl, z1r (g := f) fun j hj => by rw [if_neg (by omega)]]; grind
   ·rw [if_neg e, ih (by omega) fun _ _ => rfl]; grind
 intro m hp hq
 by_cases e : p = q
 ·subst e
  refine z1r fun r _ => ?_
  unfold sw
  by_cases h : r = p
  ·rw [if_pos h, h]
  ·rw [if_neg h, if_neg h]
 ·have e1 : fs (fun r => f (sw p q r)) m = fs (fun r => if r = p then f q else (fun r => if r = q then f p else f r) r) m := z1r fun r _ => by
   unfold sw
   by_cases h1 : r = p
   ·rw [if_pos h1, if_pos h1]
   ·rw [if_neg h1, if_neg h1]
    show f (if r = q then p else r) = if r = q then f p else f r
    by_cases h2 : r = q
    ·rw [if_pos h2, if_pos h2]
    ·rw [if_neg h2, if_neg h2]
  rw [e1, one (v := 0) hp fun _ _ => rfl, one (v := 0) hq fun _ _ => rfl, if_neg e]; grind
theorem Bas.swap {m N : Nat} {M B R : Nat → Nat → Rat} (h : Bas m N M B R) {p q : Nat} (hp : p < m) (hq : q < m) : Bas m N M (fun i r => B i (sw p q r)) (fun r c => R (sw p q r) c) := by
 refine ⟨fun i hi c hc => ?_, ?_⟩
 ·rw [← h.eq i hi c hc]
  exact w9j (f := fun r => B i r * R r c) hp hq
 ·by_cases e : p = q
  ·subst e
   have : (fun i r => B i (sw p p r)) = B := by
    funext i r
    unfold sw
    by_cases h1 : r = p
    ·rw [if_pos h1, h1]
    ·rw [if_neg h1, if_neg h1]
   rw [this]; exact h.nz
  ·have h1 := w6o hp hq e (fun i => B i p) (fun i => B i q) B
   rw [zv5 q B, zv5 p B] at h1
   have h2 : upd p (fun i => B i q) (upd q (fun i => B i p) B) = fun i r => B i (sw p q r) := by
    funext i r
    unfold upd sw
    by_cases g1 : r = p
    ·rw [if_pos g1, if_pos g1]
    ·rw [if_neg g1, if_neg g1]
     by_cases g2 : r = q
     ·rw [if_pos g2, if_pos g2]
     ·rw [if_neg g2, if_neg g2]
   have h3 : upd p (fun i => B i p) (upd q (fun i => B i q) B) = B := by rw [zv5 q B, zv5 p B]
   rw [h2] at h1
   intro h0
   rw [h0] at h1
   exact h.nz (by first | (rw [h1]; grind) | grind)
def piv (p k : Nat) (R : Nat → Nat → Rat) (r c : Nat) : Rat := if r = p then R p c / R p k else R r c - R r k * (R p c / R p k)
theorem w86 {f g : Nat → Rat} {p : Nat} : ∀ {m : Nat}, p < m → (∀ r, r < m → r ≠ p → f r = g r) → fs f m = fs g m - g p + f p
 | 0, h, _ => by omega
 | m + 1, h, h1 => by
  rw [fs, fs]
  by_cases e : m = p
  ·subst e
   rw [z1r (g := g) fun r hr => h1 r (by omega) (by omega)]; grind
  ·rw [w86 (g := g) (by omega) fun r hr => h1 r (by omega), h1 m (by omega) e]; grind
theorem Bas.pivot {m N : Nat} {M B R : Nat → Nat → Rat} (h : Bas m N M B R) {p k : Nat} (hp : p < m) (hk : k < N) (h0 : R p k ≠ 0) : Bas m N M (upd p (fun i => M i k) B) (piv p k R) := by
 refine ⟨fun i hi c hc => ?_, ?_⟩
 ·have e1 := h.eq i hi c hc
  have e2 := h.eq i hi k hk
  have h3 : fs (fun r => upd p (fun i => M i k) B i r * piv p k R r c) m = fs (fun r => B i r * R r c - (B i r * R r k) * (R p c / R p k)) m - (B i p * R p c - (B i p * R p k) * (R p c / R p k)) + M i k * (R p c / R p k) := by
   rw [w86 (g := fun r => B i r * R r c - (B i r * R r k) * (R p c / R p k)) hp fun r _ hr => by
     unfold upd piv
     rw [if_neg hr, if_neg hr]; grind]
   unfold upd piv
   rw [if_pos rfl, if_pos rfl]
  have h4 : fs (fun r => B i r * R r c - (B i r * R r k) * (R p c / R p k)) m = M i c - M i k * (R p c / R p k) := by
   have : (fun r => B i r * R r c - (B i r * R r k) * (R p c / R p k)) = fun r => B i r * R r c + (B i r * R r k) * (-(R p c / R p k)) := by funext r; grind
   rw [this, yb9, y5h, e1, e2]; grind
  rw [h3, h4]
  have h5 : R p k * (R p c / R p k) = R p c := by rw [Rat.div_def]; grind
  grind
 ·rw [w3m (x := fun r => R r k) hp fun i hi => h.eq i hi k hk]
  intro e
  rcases Rat.mul_eq_zero.1 e with e | e
  ·exact h0 e
  ·exact h.nz e
theorem Bas.elem {m N : Nat} {M B R : Nat → Nat → Rat} (h : Bas m N M B R) {r c : Nat} (hr : r < m) (hc : c < N) : R r c = det m (upd r (fun i => M i c) B) / det m B := by
 have h1 := w3m (x := fun r => R r c) (b := fun i => M i c) hr fun i hi => h.eq i hi c hc
 have h2 := h.nz
 rw [h1, Rat.div_def]
 have h2' : det m B * (det m B)⁻¹ = 1 := Rat.mul_inv_cancel _ h2
 grind
end Go.Proofs.YtcdcoeofhnfjdaaDoor
