/- Lists of numbers by places, and sums of what a function gives. -/
import Derived.Test.YtcdcoeofhnfjdaaDoorMa
namespace Go.Proofs.YtcdcoeofhnfjdaaDoor
open Go Vm
def QF (n : Nat) (f : Nat → Rat) (qs : List Qd) : Prop := qs.length = n ∧ ∀ i, i < n → QR (f i) (qs.getD i (false, ([], [])))
theorem QF.at {n : Nat} {f : Nat → Rat} {qs : List Qd} (h : QF n f qs) {i : Nat} (hi : i < n) : QR (f i) ((qs.getD i (false, ([], []))).1, ((qs.getD i (false, ([], []))).2)) := h.2 i hi
theorem QF.ext {n : Nat} {f g : Nat → Rat} {qs : List Qd} (h : QF n f qs) (e : ∀ i, i < n → f i = g i) : QF n g qs := ⟨h.1, fun i hi => by rw [← e i hi]; exact h.2 i hi⟩
theorem QF.set {n : Nat} {f : Nat → Rat} {qs : List Qd} (h : QF n f qs) {i : Nat} (hi : i < n) {r : Rat} {q : Qd} (hr : QR r q) : QF n (fun j => if j = i then r else f j) (qs.set i q) := by
 refine ⟨by rw [List.length_set, h.1], fun j hj => ?_⟩
 show QR (if j = i then r else f j) _
 by_cases e : j = i
 ·rw [if_pos e, e, yl9 _ _ _ _ (by rw [h.1]; exact hi)]; exact hr
 ·rw [if_neg e, z4x _ _ _ _ _ (fun x => e x.symm)]; exact h.2 j hj
theorem QF.of {rs : List Rat} {qs : List Qd} (h : QRs rs qs) : QF rs.length (fun i => rs.getD i 0) qs := ⟨h.1.symm, h.2⟩
theorem y5t {n i : Nat} {f : Nat → Rat} (h : i < n) : ((List.range n).map f).getD i 0 = f i := by
 rw [List.getD_eq_getElem?_getD, List.getElem?_map, List.getElem?_range h]; rfl
theorem QF.list {n : Nat} {f : Nat → Rat} {qs : List Qd} (h : QF n f qs) : QRs ((List.range n).map f) qs := by
 refine ⟨by rw [List.length_map, List.length_range, h.1], fun i hi => ?_⟩
 rw [List.length_map, List.length_range] at hi
 rw [y5t hi]
 exact h.2 i hi
theorem QF.rep (n : Nat) : QF n (fun _ => 0) (List.replicate n (false, ([], []))) := ⟨by simp, fun i _ => by rw [w74]; exact y0t⟩
def fs (f : Nat → Rat) : Nat → Rat
 | 0 => 0
 | n + 1 => fs f n + f n
theorem z1r {f g : Nat → Rat} : ∀ {n : Nat}, (∀ i, i < n → f i = g i) → fs f n = fs g n
 | 0, _ => rfl
 | n + 1, h => by rw [fs, fs, z1r fun i hi => h i (by omega), h n (by omega)]
theorem yb9 {f g : Nat → Rat} : ∀ n : Nat, fs (fun i => f i + g i) n = fs f n + fs g n
 | 0 => by simp only [fs]; grind
 | n + 1 => by simp only [fs, yb9 n]; grind
theorem zr0 {f : Nat → Rat} : ∀ {n : Nat}, (∀ i, i < n → 0 ≤ f i) → 0 ≤ fs f n
 | 0, _ => by simp only [fs]; exact Rat.le_refl
 | n + 1, h => by
  have h1 := zr0 (n := n) fun i hi => h i (by omega)
  have h2 := h n (by omega)
  rw [fs]; grind
theorem wf3 {f : Nat → Rat} : ∀ {n i : Nat}, (∀ i, i < n → 0 ≤ f i) → i < n → f i ≤ fs f n
 | 0, _, _, h => by omega
 | n + 1, i, h, hi => by
  rw [fs]
  have h2 := h n (by omega)
  by_cases e : i = n
  ·subst e
   have h1 := zr0 (n := i) fun j hj => h j (by omega)
   grind
  ·have h1 := wf3 (n := n) (fun j hj => h j (by omega)) (show i < n by omega)
   grind
theorem wd9 {f : Nat → Rat} {k : Nat} : ∀ {n : Nat}, (∀ i, i < n → Dr k (f i)) → Dr ((k + 1) * n + 1) (fs f n)
 | 0, _ => zu3 (by omega)
 | n + 1, h => by
  have h1 := wd9 (n := n) fun i hi => h i (by omega)
  have h2 := h n (by omega)
  refine z80 ?_ (w82 h1 h2)
  rw [Nat.mul_succ]; omega
theorem w0p {r : Rat} : r.num.sign ≤ 0 ↔ r ≤ 0 := by
 have h1 : r.num.sign ≤ 0 ↔ r.num ≤ 0 := by
  rcases Int.lt_trichotomy r.num 0 with h | h | h
  ·rw [Int.sign_eq_neg_one_of_neg h]; omega
  ·rw [h]; simp
  ·rw [Int.sign_eq_one_of_pos h]; omega
 rw [h1]
 have h2 := Rat.num_nonneg (q := -r)
 rw [Rat.neg_num] at h2
 constructor
 ·intro h
  have := h2.1 (by omega)
  grind
 ·intro h
  have := h2.2 (by grind)
  omega
end Go.Proofs.YtcdcoeofhnfjdaaDoor
